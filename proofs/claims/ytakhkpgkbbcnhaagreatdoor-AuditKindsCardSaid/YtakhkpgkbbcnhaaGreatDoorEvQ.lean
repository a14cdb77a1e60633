/- The concrete evaluator, part Q: what only reads, in the quiet logic: nothing turns, in the heap or in the world. Printed by gen_q.py. -/
import Derived.Test.YtakhkpgkbbcnhaaGreatDoorEvD
namespace Go.Ev
open Go
variable [Globs] [Holes]

def SimQ {α β : Type} (P : Program) (R : Emb → α → β → Prop) (ρ : Emb) (s : Sem α) (s' : Sem β) : Prop :=
  ∀ F h w a h₁, Inv F ρ h w → arun P s h = some (a, h₁) → ∃ b, s'.run P w = .ok b w ∧ h₁ = h ∧ R ρ a b

section logic
variable {P : Program} {ρ : Emb}
theorem SimQ.bind {α β γ δ : Type} {R : Emb → α → β → Prop} {R' : Emb → γ → δ → Prop} {s : Sem α} {s' : Sem β} {k : α → Sem γ} {k' : β → Sem δ}
    (hs : SimQ P R ρ s s') (hk : ∀ σ, ρ.le σ → ∀ a b, R σ a b → SimQ P R' σ (k a) (k' b)) : SimQ P R' ρ (s >>= k) (s' >>= k') := by
  intro F h w c h₁ hi ha
  change arun P (s.bind k) h = _ at ha
  rw [arun_bind] at ha
  split at ha
  · rename_i a h' e
    obtain ⟨b, hr, rfl, hR⟩ := hs F h w a h' hi e
    obtain ⟨d, hr', rfl, hR'⟩ := hk ρ (Emb.le_refl _) a b hR F h' w c h₁ hi ha
    refine ⟨d, ?_, rfl, hR'⟩
    change (s'.bind k').run P w = _
    rw [Go.Ev.run_bind, hr]
    exact hr'
  · exact absurd ha (by simp)
theorem SimQ.pure {α β : Type} {R : Emb → α → β → Prop} {a : α} {b : β} (h : R ρ a b) : SimQ P R ρ (Pure.pure a : Sem α) (Pure.pure b : Sem β) := by
  intro F hp w c h₁ hi ha
  change arun P (Sem.pure a) hp = _ at ha
  simp only [arun, Option.some.injEq, Prod.mk.injEq] at ha
  obtain ⟨rfl, rfl⟩ := ha
  exact ⟨b, rfl, rfl, h⟩
theorem SimQ.halt {α β : Type} {R : Emb → α → β → Prop} {x : Halt} {s' : Sem β} : SimQ P R ρ (Sem.halt x : Sem α) s' := by
  intro F hp w c h₁ hi ha
  simp [arun] at ha
theorem SimQ.halt_bind {α β γ : Type} {R : Emb → α → β → Prop} {x : Halt} {k : γ → Sem α} {s' : Sem β} : SimQ P R ρ ((Sem.halt x : Sem γ) >>= k) s' := by
  intro F hp w c h₁ hi ha
  change arun P ((Sem.halt x : Sem γ).bind k) hp = _ at ha
  simp [Sem.bind, arun] at ha
theorem SimQ.ite {α β : Type} {R : Emb → α → β → Prop} {c : Prop} [Decidable c] {s t : Sem α} {s' t' : Sem β} (h : c → SimQ P R ρ s s') (h' : ¬ c → SimQ P R ρ t t') :
    SimQ P R ρ (if c then s else t) (if c then s' else t') := by
  by_cases hc : c
  · rw [if_pos hc, if_pos hc]; exact h hc
  · rw [if_neg hc, if_neg hc]; exact h' hc
theorem SimQ.none {α β : Type} {R : Emb → α → β → Prop} {s : Sem α} {s' : Sem β} (h : ∀ hp, arun P s hp = Option.none) : SimQ P R ρ s s' := by
  intro F hp w c h₁ hi ha
  rw [h] at ha
  exact absurd ha (by simp)
theorem SimQ.mono {α β : Type} {R R' : Emb → α → β → Prop} {s : Sem α} {s' : Sem β} (h : SimQ P R ρ s s') (hR : ∀ σ a b, ρ.le σ → R σ a b → R' σ a b) : SimQ P R' ρ s s' := by
  intro F hp w a h₁ hi ha
  obtain ⟨b, hr, e, hRR⟩ := h F hp w a h₁ hi ha
  exact ⟨b, hr, e, hR _ _ _ (Emb.le_refl _) hRR⟩
theorem SimQ.program {α β : Type} {R : Emb → α → β → Prop} {k : Program → Sem α} {k' : Program → Sem β} (h : SimQ P R ρ (k P) (k' P)) :
    SimQ P R ρ (Go.program >>= k) (Go.program >>= k') := by
  intro F hp w a h₁ hi ha
  exact h F hp w a h₁ hi ha
end logic

section sims
variable {P : Program} {ρ : Emb}
theorem simq_load {a a' : Addr} (m : Go.Mode) (h : ARel ρ a a') : SimQ P VRel ρ (load a m) (load a' m) := by
  intro F hp w v h₁ hi ha
  simp only [load, arun] at ha
  split at ha
  · rename_i x hx
    simp only [Option.some.injEq, Prod.mk.injEq] at ha
    obtain ⟨rfl, rfl⟩ := ha
    obtain ⟨v', hv', hr, _⟩ := hi.cell h hx
    exact ⟨v', by simp [load, Sem.run, hv'], rfl, hr⟩
  · exact absurd ha (by simp)
theorem simq_typeInfo (t : TypeId) : SimQ P (fun _ a b => a = b ∧ P.info? t = some a) ρ (typeInfo t) (typeInfo t) := by
  refine SimQ.program ?_
  cases P.info? t with
  | none => exact SimQ.halt
  | some i => exact SimQ.pure ⟨rfl, rfl⟩
theorem simq_underlying (t : TypeId) : SimQ P (fun _ a b => a = b ∧ P.underlying t = some a) ρ (underlying t) (underlying t) := by
  refine SimQ.program ?_
  cases P.underlying t with
  | none => exact SimQ.halt
  | some i => exact SimQ.pure ⟨rfl, rfl⟩
theorem simq_sizeOf (t : TypeId) : SimQ P (fun _ a b => a = b) ρ (sizeOf t) (sizeOf t) :=
  (simq_typeInfo t).bind fun _ _ a b h => by obtain ⟨rfl, _⟩ := h; exact SimQ.pure rfl
theorem simq_isAgg (t : TypeId) : SimQ P (fun _ a b => a = b) ρ (isAgg t) (isAgg t) :=
  (simq_underlying t).bind fun _ _ a b h => by obtain ⟨rfl, _⟩ := h; cases a <;> exact SimQ.pure rfl
theorem simq_loadCellsFrom : ∀ (n i : Nat) {ρ : Emb} {a a' : Addr} {acc acc' : Array Value}, ARel ρ a a' → VsRel ρ acc acc' →
    SimQ P VsRel ρ (loadCellsFrom a i n acc) (loadCellsFrom a' i n acc') := by
  intro n
  induction n with
  | zero => intro i ρ a a' acc acc' _ h; exact SimQ.pure h
  | succ n ih =>
    intro i ρ a a' acc acc' ha h
    exact (simq_load .plain (ha.add i)).bind fun σ hle v v' hv => ih (i + 1) (ha.mono hle) ((h.mono hle).push hv)
theorem simq_loadCells (n : Nat) {a a' : Addr} (ha : ARel ρ a a') : SimQ P VsRel ρ (loadCells a n) (loadCells a' n) := simq_loadCellsFrom n 0 ha .empty
theorem simq_loadVar (t : TypeId) {a a' : Addr} (ha : ARel ρ a a') : SimQ P VRel ρ (loadVar t a) (loadVar t a') := by
  refine (simq_isAgg t).bind fun σ hle b b' hb => ?_
  subst hb
  cases b with
  | false => exact simq_load .plain (ha.mono hle)
  | true =>
    refine (simq_sizeOf t).bind fun σ' hle' n n' hn => ?_
    subst hn
    refine (simq_loadCells n (ha.mono (Emb.le_trans hle hle'))).bind fun σ'' _ xs ys hxs => SimQ.pure (.agg hxs.1 hxs.2)
theorem simq_zero {t : TypeId} (hz : zeroFlat P t = true) : SimQ P (fun σ a b => VRel σ a b ∧ b = a) ρ (zeroValue t) (zeroValue t) := by
  refine (simq_typeInfo t).bind fun σ _ a b h => ?_
  obtain ⟨rfl, hi⟩ := h
  unfold zeroFlat at hz
  rw [hi] at hz
  cases hv : a.zero with
  | none => exact SimQ.halt
  | some v => simp only [hv] at hz; exact SimQ.pure ⟨rel_of_flat 3 v hz, rfl⟩
theorem simq_sureAddr {v v' : Value} (hv : VRel ρ v v') : SimQ P ARel ρ (Instr.sureAddr v) (Instr.sureAddr v') := by
  cases hv <;> first
    | exact SimQ.halt
    | (rename_i h; exact SimQ.pure ⟨_, h, rfl, rfl⟩)
theorem simq_asAddr {v v' : Value} (hv : VRel ρ v v') : SimQ P ARel ρ (asAddr v) (asAddr v') := by
  cases hv <;> first
    | exact SimQ.halt
    | (rename_i h; exact SimQ.pure ⟨_, h, rfl, rfl⟩)
    | exact SimQ.program SimQ.halt
theorem simq_loadAt (t : TypeId) {v v' : Value} (hv : VRel ρ v v') : SimQ P VRel ρ (Instr.loadAt t v) (Instr.loadAt t v') :=
  (simq_sureAddr hv).bind fun τ _ x y hxy => simq_loadVar t hxy
theorem simq_sizeOf' (t : TypeId) : SimQ P (fun _ a b => a = b ∧ ∃ i, P.info? t = some i ∧ a = i.size) ρ (sizeOf t) (sizeOf t) :=
  (simq_typeInfo t).bind fun _ _ a b h => by obtain ⟨rfl, h⟩ := h; exact SimQ.pure ⟨rfl, a, h, rfl⟩
theorem simq_fieldPlace (f : Field) (hf : fullType P f.type = true) {a a' : Addr} (ha : ARel ρ a a') : SimQ P ARel ρ (fieldPlace a f) (fieldPlace a' f) := by
  refine (simq_sizeOf' f.type).bind fun σ hle n n' h => ?_
  obtain ⟨rfl, i, hi, rfl⟩ := h
  have : ¬ (i.size = 0) := by
    unfold fullType at hf
    rw [hi] at hf
    intro h0
    simp only [h0] at hf
    exact absurd hf (by decide)
  rw [if_neg this, if_neg this]
  exact SimQ.pure ((ha.mono hle).add _)
theorem simq_fieldAt (s : TypeId) (n : Nat) (hf : fieldFull P s n = true) {v v' : Value} (hv : VRel ρ v v') : SimQ P VRel ρ (Instr.fieldAt s v n) (Instr.fieldAt s v' n) := by
  refine (simq_underlying s).bind fun σ hle d d' h => ?_
  obtain ⟨rfl, hd⟩ := h
  cases d <;> first | exact SimQ.halt_bind | exact SimQ.halt | skip
  rename_i fs
  unfold fieldFull at hf
  rw [hd] at hf
  simp only at hf ⊢
  cases hfn : fs[n]? with
  | none => exact SimQ.halt
  | some f =>
    rw [hfn] at hf
    refine (simq_sureAddr (hv.mono hle)).bind fun τ _ a a' haa => ?_
    exact (simq_fieldPlace f hf haa).bind fun _ _ x y hxy => SimQ.pure (.ptr' hxy)
theorem simq_asIntOf {v v' : Value} (hv : VRel ρ v v') : SimQ P (fun _ a b => a = b) ρ (asIntOf v) (asIntOf v') := by
  cases hv <;> first
    | exact SimQ.halt
    | exact SimQ.pure rfl
theorem simq_asInt {v v' : Value} (hv : VRel ρ v v') : SimQ P (fun _ a b => a = b) ρ (asInt v) (asInt v') :=
  (simq_asIntOf hv).bind fun _ _ a b h => by subst h; exact SimQ.pure rfl
theorem simq_asAgg {v v' : Value} (hv : VRel ρ v v') : SimQ P VsRel ρ (asAgg v) (asAgg v') := by
  cases hv <;> first
    | exact SimQ.halt
    | (rename_i n h; exact SimQ.pure ⟨n, h⟩)
theorem simq_runtimePanic {α β : Type} {R : Emb → α → β → Prop} {e : RuntimeError} {s' : Sem β} : SimQ P R ρ (runtimePanic e : Sem α) s' :=
  SimQ.none fun hp => arun_runtimePanic e hp
theorem simq_boundsPanic {α β : Type} {R : Emb → α → β → Prop} {k : IntKind} {x y : Int} {c : BoundsCode} {s' : Sem β} : SimQ P R ρ (boundsPanic k x y c : Sem α) s' := by
  refine SimQ.none fun hp => ?_
  unfold boundsPanic
  dsimp only
  split
  · exact arun_bind_none fun _ _ => arun_runtimePanic _ _
  · exact arun_bind_none fun _ _ => arun_runtimePanic _ _
theorem simq_indexAt (t : TypeId) {v v' u u' : Value} (hv : VRel ρ v v') (hu : VRel ρ u u') : SimQ P VRel ρ (Instr.indexAt t v u) (Instr.indexAt t v' u') := by
  refine (simq_asIntOf hu).bind fun σ hle ki ki' h => ?_
  subst h
  obtain ⟨k, i⟩ := ki
  simp only
  refine (simq_underlying t).bind fun τ hle' d d' h => ?_
  obtain ⟨rfl, hd⟩ := h
  have hv' := (hv.mono hle).mono hle'
  have rest : ∀ (τ : Emb) (xb yb : Option Addr) (xl xe : Nat), (∀ a, xb = some a → 0 < xl → ∃ a', yb = some a' ∧ ARel τ a a') → (xb = none → yb = none) → ∀ (tiny : Bool),
      SimQ P VRel τ (match xb with
        | some a => if 0 ≤ i ∧ i < (xl : Int) then do pure (.pointer (some (a.add (i.toNat * (← sizeOf xe)))))
          else if tiny = true then unsupported (.noEntry "op/indexAddr.an index out of range at an array of length 0 or 1 (ledger 616)") else boundsPanic k i xl .index
        | none => boundsPanic k i 0 .index) (match yb with
        | some a => if 0 ≤ i ∧ i < (xl : Int) then do pure (.pointer (some (a.add (i.toNat * (← sizeOf xe)))))
          else if tiny = true then unsupported (.noEntry "op/indexAddr.an index out of range at an array of length 0 or 1 (ledger 616)") else boundsPanic k i xl .index
        | none => boundsPanic k i 0 .index) := by
    intro τ xb yb xl xe h1 h2 tiny
    cases xb with
    | none => exact simq_boundsPanic
    | some a =>
      simp only
      by_cases hc : 0 ≤ i ∧ i < (xl : Int)
      · obtain ⟨a', e', haa⟩ := h1 a rfl (by omega)
        rw [e', if_pos hc]
        simp only
        rw [if_pos hc]
        refine (simq_sizeOf xe).bind fun τ'' hle₃ n n' hn => ?_
        subst hn
        exact SimQ.pure (.ptr' ((haa.mono hle₃).add _))
      · rw [if_neg hc]
        split
        · exact SimQ.halt
        · exact simq_boundsPanic
  cases d with
  | array n e =>
    simp only
    refine (simq_sureAddr hv').bind fun τ' _ a a' haa => ?_
    refine SimQ.bind (R := fun σ x y => x = (some a, n, e) ∧ y = (some a', n, e) ∧ ARel σ a a') (SimQ.pure ⟨rfl, rfl, haa⟩) ?_
    rintro τ₂ _ _ _ ⟨rfl, rfl, haa⟩
    refine (simq_underlying t).bind fun τ₃ hle₃ d d' h => ?_
    obtain ⟨rfl, _⟩ := h
    exact rest τ₃ (some a) (some a') n e (fun a₁ h₁ _ => by cases h₁; exact ⟨_, rfl, haa.mono hle₃⟩) (fun h₁ => by cases h₁) _
  | slice e =>
    cases hv' <;> first | exact SimQ.halt_bind | exact SimQ.halt | skip
    · refine SimQ.bind (R := fun σ x y => x = (none, _, e) ∧ y = (none, _, e)) (SimQ.pure ⟨rfl, rfl⟩) ?_
      rintro τ₂ _ _ _ ⟨rfl, rfl⟩
      refine (simq_underlying t).bind fun τ₃ hle₃ d d' h => ?_
      obtain ⟨rfl, _⟩ := h
      exact simq_boundsPanic
    · rename_i b o len cap o' cap' L h hs
      refine SimQ.bind (R := fun σ x y => x = (some ⟨b, o, none⟩, len, e) ∧ y = (some ⟨L.blk, o', none⟩, len, e) ∧ σ b = some L) (SimQ.pure ⟨rfl, rfl, h⟩) ?_
      rintro τ₂ _ _ _ ⟨rfl, rfl, h⟩
      refine (simq_underlying t).bind fun τ₃ hle₃ d d' h' => ?_
      obtain ⟨rfl, _⟩ := h'
      refine rest τ₃ (some _) (some _) len e (fun a₁ h₁ hlt => ?_) (fun h₁ => by cases h₁) _
      cases h₁
      refine ⟨_, rfl, L, hle₃ _ _ h, rfl, ?_⟩
      have : o' = L.off + o := by
        rcases hs with ⟨_, h'⟩ | ⟨_, _, _, _, h' | h'⟩
        · exact h'
        · exact h'
        · omega
      rw [this]
  | _ => cases hv' <;> first | exact SimQ.halt_bind | exact SimQ.halt
theorem simq_part (t : TypeId) {xs ys : Array Value} (h : VsRel ρ xs ys) (o : Nat) : SimQ P VRel ρ (part t xs o) (part t ys o) := by
  refine (simq_isAgg t).bind fun σ hle b b' hb => ?_
  subst hb
  cases b with
  | true =>
    refine (simq_sizeOf t).bind fun σ' hle' n n' hn => ?_
    subst hn
    have := ((h.mono hle).mono hle').extract o (o + n)
    exact SimQ.pure (.agg this.1 this.2)
  | false =>
    simp only [Bool.false_eq_true, if_false]
    cases hx : xs[o]? with
    | none => exact SimQ.halt
    | some x =>
      obtain ⟨y, hy, hv⟩ := h.get hx
      rw [hy]
      exact SimQ.pure (hv.mono hle)
theorem simq_field (t : TypeId) {v v' : Value} (hv : VRel ρ v v') (n : Nat) : SimQ P VRel ρ (Instr.field t v n) (Instr.field t v' n) := by
  refine (simq_underlying t).bind fun σ hle d d' h => ?_
  obtain ⟨rfl, hd⟩ := h
  cases d <;> first | exact SimQ.halt | skip
  rename_i fs
  simp only
  cases hfn : fs[n]? with
  | none => exact SimQ.halt
  | some f => exact (simq_asAgg (hv.mono hle)).bind fun τ _ xs ys hxs => simq_part f.type hxs f.offset
theorem simq_index (t : TypeId) {v v' u u' : Value} (hv : VRel ρ v v') (hu : VRel ρ u u') : SimQ P VRel ρ (Instr.index t v u) (Instr.index t v' u') := by
  refine (simq_asIntOf hu).bind fun σ hle ki ki' h => ?_
  subst h
  obtain ⟨k, i⟩ := ki
  simp only
  refine (simq_underlying t).bind fun τ hle' d d' h => ?_
  obtain ⟨rfl, hd⟩ := h
  have hv' := (hv.mono hle).mono hle'
  cases d with
  | array n e =>
    cases hv' <;> first | exact SimQ.halt | skip
    rename_i xs ys hn hxs
    refine SimQ.ite (fun _ => ?_) (fun _ => simq_boundsPanic)
    refine (simq_sizeOf e).bind fun τ' hle'' n n' hn' => ?_
    subst hn'
    exact simq_part e (VsRel.mono hle'' ⟨hn, hxs⟩) _
  | string =>
    cases hv' <;> first | exact SimQ.halt | skip
    rename_i s
    simp only
    split
    · exact SimQ.pure (.int _ _)
    · exact simq_boundsPanic
  | _ => cases hv' <;> exact SimQ.halt
theorem simq_extract {v v' : Value} (hv : VRel ρ v v') (n : Nat) : SimQ P VRel ρ (Instr.extract v n) (Instr.extract v' n) := by
  cases hv <;> first | exact SimQ.halt | skip
  rename_i xs ys hn hxs
  unfold Instr.extract
  simp only
  cases hx : xs[n]? with
  | none => exact SimQ.halt
  | some x =>
    obtain ⟨y, hy, h⟩ := VsRel.get ⟨hn, hxs⟩ hx
    rw [hy]
    exact SimQ.pure h
theorem simq_makeInterface (t : TypeId) {v v' : Value} (hv : VRel ρ v v') : SimQ P VRel ρ (Instr.makeInterface t v) (Instr.makeInterface t v') := by
  refine (simq_underlying t).bind fun σ hle d d' h => ?_
  obtain ⟨rfl, hd⟩ := h
  cases d <;> first | exact SimQ.halt | exact SimQ.pure (.iface (hv.mono hle))

/-! ### build -/
theorem simq_mapM {α β γ : Type} {R : Emb → β → γ → Prop} (hR : ∀ σ τ b c, Emb.le σ τ → R σ b c → R τ b c) {f : α → Sem β} {g : α → Sem γ} :
    ∀ (l : List α) {ρ : Emb}, (∀ a ∈ l, ∀ σ, ρ.le σ → SimQ P R σ (f a) (g a)) → SimQ P (fun σ bs cs => All2 (R σ) bs cs) ρ (l.mapM f) (l.mapM g) := by
  intro l
  induction l with
  | nil => intro ρ _; simp only [List.mapM_nil]; exact SimQ.pure .nil
  | cons a l ih =>
    intro ρ h
    simp only [List.mapM_cons]
    refine (h a (by simp) ρ (Emb.le_refl _)).bind fun σ hle b c hbc => ?_
    refine (ih (ρ := σ) fun x hx τ hτ => h x (by simp [hx]) τ (Emb.le_trans hle hτ)).bind fun τ hle' bs cs hbs => SimQ.pure ?_
    exact .cons (hR _ _ _ _ hle' hbc) hbs
theorem simq_arrayMapM {α β γ : Type} {R : Emb → β → γ → Prop} (hR : ∀ σ τ b c, Emb.le σ τ → R σ b c → R τ b c) {f : α → Sem β} {g : α → Sem γ} (l : Array α)
    (h : ∀ a ∈ l.toList, ∀ σ, ρ.le σ → SimQ P R σ (f a) (g a)) : SimQ P (fun σ bs cs => All2 (R σ) bs.toList cs.toList) ρ (l.mapM f) (l.mapM g) := by
  rw [Array.mapM_eq_mapM_toList, Array.mapM_eq_mapM_toList]
  have := simq_mapM (P := P) hR l.toList h
  show SimQ P _ ρ (l.toList.mapM f >>= fun x => pure x.toArray) (l.toList.mapM g >>= fun x => pure x.toArray)
  exact this.bind fun σ _ bs cs hbs => SimQ.pure (by simpa using hbs)
theorem simq_places (fields : Array Field) : SimQ P (fun _ a b => a = b) ρ (fields.mapM fun f => do pure (f.offset, ← sizeOf f.type)) (fields.mapM fun f => do pure (f.offset, ← sizeOf f.type)) :=
  (simq_arrayMapM (R := fun _ a b => a = b) (fun _ _ _ _ _ h => h) fields fun f _ σ _ => (simq_sizeOf f.type).bind fun _ _ n n' h => by subst h; exact SimQ.pure rfl).mono
    fun _ a b _ h => by have := All2.eq h; exact Array.toList_inj.1 this
theorem simq_build (t : TypeId) (hz : zeroFlat P t = true) {ps qs : Array (Nat × Value)} (h : PsRel ρ ps.toList qs.toList) : SimQ P VRel ρ (Instr.build t ps) (Instr.build t qs) := by
  have hmono : ∀ {σ : Emb}, ρ.le σ → PsRel σ ps.toList qs.toList := by
    intro σ hle
    have : ∀ (as bs : List (Nat × Value)), PsRel ρ as bs → PsRel σ as bs := by
      intro as bs h
      induction h with
      | nil => exact .nil
      | cons h _ ih => exact .cons ⟨h.1, h.2.mono hle⟩ ih
    exact this _ _ h
  refine (simq_zero hz).bind fun σ hle z z' hzz => ?_
  obtain ⟨hzz, rfl⟩ := hzz
  refine (simq_underlying t).bind fun τ hle' d d' hd => ?_
  obtain ⟨rfl, hd⟩ := hd
  have hcells := (hzz.mono hle').cells
  cases d <;> first | exact SimQ.halt | skip
  · rename_i n elem
    refine (simq_sizeOf elem).bind fun τ' hle'' n n' hn => ?_
    subst hn
    rcases fill_rel (fun i => some (i * n, n)) _ _ _ _ (hmono (Emb.le_trans (Emb.le_trans hle hle') hle'')) (hcells.mono hle'') with ⟨e1, e2⟩ | ⟨zs, zs', e1, e2, hr⟩
    · rw [e1]; exact SimQ.halt
    · rw [e1, e2]; exact SimQ.pure (.agg hr.1 hr.2)
  · rename_i fields
    refine (simq_places fields).bind fun τ' hle'' pl pl' hn => ?_
    subst hn
    rcases fill_rel (pl[·]?) _ _ _ _ (hmono (Emb.le_trans (Emb.le_trans hle hle') hle'')) (hcells.mono hle'') with ⟨e1, e2⟩ | ⟨zs, zs', e1, e2, hr⟩
    · rw [e1]; exact SimQ.halt
    · rw [e1, e2]; exact SimQ.pure (.agg hr.1 hr.2)
theorem simq_get (t : TypeId) {p q : Place} (h : PlRel ρ p q) : SimQ P VRel ρ (p.get t) (q.get t) := by
  cases h with
  | val h => exact SimQ.pure h
  | var h => exact simq_loadVar t h

/-- No field of size nought lies on a path. -/
theorem simq_follow : ∀ (path : List FieldStep) (t : TypeId) {ρ : Emb} {p q : Place}, pathFull P path = true → PlRel ρ p q →
    SimQ P (fun σ a b => a.1 = b.1 ∧ PlRel σ a.2 b.2) ρ (follow path t p) (follow path t q) := by
  intro path
  induction path with
  | nil => intro t ρ p q _ h; exact SimQ.pure ⟨rfl, h⟩
  | cons s rest ih =>
    intro t ρ p q hf h
    simp only [pathFull, Bool.and_eq_true] at hf
    refine (simq_underlying s.struct).bind fun σ hle d d' hd => ?_
    obtain ⟨rfl, hd⟩ := hd
    cases d <;> first | exact SimQ.halt | skip
    rename_i fields
    simp only
    cases hfn : fields[s.index]? with
    | none => exact SimQ.halt
    | some f =>
      have hff : fullType P f.type = true := by
        have := hf.1
        unfold fieldFull at this
        rw [hd] at this
        simpa only [hfn] using this
      simp only
      refine SimQ.ite (fun _ => ?_) fun _ => ?_
      · refine (simq_get t (h.mono hle)).bind fun τ hle' v v' hv => ?_
        refine (simq_asAddr hv).bind fun τ' hle'' a a' ha => ?_
        exact (simq_fieldPlace f hff ha).bind fun τ₂ _ b b' hb => ih f.type hf.2 (.var hb)
      · cases h with
        | var ha => exact (simq_fieldPlace f hff (ha.mono hle)).bind fun τ₂ _ b b' hb => ih f.type hf.2 (.var hb)
        | val hv =>
          cases hv <;> first | exact SimQ.halt | skip
          rename_i xs ys hn hxs
          exact (simq_part f.type (VsRel.mono hle ⟨hn, hxs⟩) f.offset).bind fun τ₂ _ b b' hb => ih f.type hf.2 (.val hb)

/-- A value receiver behind a pointer, by a wrapper's check, is not taken in. -/
theorem simq_receiverAt (xt : TypeId) (ptr : Bool) (wr : Option String) (hw : plainRecv P xt ptr wr.isSome = true) {p q : Place} (h : PlRel ρ p q) :
    SimQ P VRel ρ (receiverAt xt p ptr wr) (receiverAt xt q ptr wr) := by
  refine (simq_underlying xt).bind fun σ hle d d' hd => ?_
  obtain ⟨rfl, hd⟩ := hd
  unfold plainRecv at hw
  rw [hd] at hw
  replace h := h.mono hle
  cases d with
  | pointer e =>
    simp only at hw
    cases ptr with
    | true => exact simq_get xt h
    | false =>
      cases wr with
      | some n => simp at hw
      | none =>
        refine (simq_get xt h).bind fun τ _ v v' hv => ?_
        refine SimQ.bind (R := VRel) (SimQ.pure hv) fun τ' _ x x' hx => ?_
        exact (simq_asAddr hx).bind fun τ'' _ a a' ha => simq_loadVar e ha
  | _ =>
    cases ptr with
    | false => cases h with
      | val hh => exact SimQ.pure hh
      | var hh => exact simq_loadVar xt hh
    | true => cases h with
      | val hh => exact SimQ.halt
      | var hh => exact SimQ.pure (.ptr' hh)
end sims
end Go.Ev
