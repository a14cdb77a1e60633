/- The concrete evaluator, part C: the instructions, alike. -/
import Derived.Test.YtakhkpgkbbcnhaaGreatDoorEvB
namespace Go.Ev
open Go
variable [Globs] [Holes]

def zeroFlat (P : Program) (t : TypeId) : Bool :=
  match P.info? t with
  | some i => match i.zero with | some v => flat 3 v | none => true
  | none => true
def fullType (P : Program) (t : TypeId) : Bool :=
  match P.info? t with
  | some i => !(Nat.beq i.size 0)
  | none => true

section sims
variable {P : Program} {ρ : Emb}

theorem sim_zero {t : TypeId} (hz : zeroFlat P t = true) : Sim P (fun σ a b => VRel σ a b ∧ b = a) ρ (zeroValue t) (zeroValue t) := by
  refine (sim_typeInfo t).bind fun σ _ a b h => ?_
  obtain ⟨rfl, hi⟩ := h
  unfold zeroFlat at hz
  rw [hi] at hz
  cases hv : a.zero with
  | none => exact Sim.halt
  | some v => simp only [hv] at hz; exact Sim.pure ⟨rel_of_flat 3 v hz, rfl⟩

theorem sim_newVar (t : TypeId) {v v' : Value} (hv : VRel ρ v v') : Sim P ARel ρ (newVar t v) (newVar t v') := sim_newRow t t hv.cells

theorem sim_sureAddr {v v' : Value} (hv : VRel ρ v v') : Sim P ARel ρ (Instr.sureAddr v) (Instr.sureAddr v') := by
  cases hv <;> first
    | exact Sim.halt
    | (rename_i h; exact Sim.pure ⟨_, h, rfl, rfl⟩)

theorem sim_asAddr {v v' : Value} (hv : VRel ρ v v') : Sim P ARel ρ (asAddr v) (asAddr v') := by
  cases hv <;> first
    | exact Sim.halt
    | (rename_i h; exact Sim.pure ⟨_, h, rfl, rfl⟩)
    | exact Sim.program Sim.halt

theorem sim_alloc {t : TypeId} (hz : zeroFlat P t = true) : Sim P VRel ρ (Instr.alloc t true (.tuple #[])) (Instr.alloc t true (.tuple #[])) := by
  refine (sim_zero hz).bind fun σ _ a b h => ?_
  exact (sim_newVar t h.1).bind fun τ _ x y hxy => Sim.pure (.ptr' hxy)
theorem sim_box (t : TypeId) {v v' : Value} (hv : VRel ρ v v') : Sim P VRel ρ (Instr.box t v) (Instr.box t v') :=
  (sim_newVar t hv).bind fun τ _ x y hxy => Sim.pure (.ptr' hxy)
theorem sim_loadAt (t : TypeId) {v v' : Value} (hv : VRel ρ v v') : Sim P VRel ρ (Instr.loadAt t v) (Instr.loadAt t v') :=
  (sim_sureAddr hv).bind fun τ _ x y hxy => sim_loadVar t hxy
theorem sim_storeAt (t : TypeId) {v v' u u' : Value} (hv : VRel ρ v v') (hu : VRel ρ u u') : Sim P (fun _ _ _ => True) ρ (Instr.storeAt t v u) (Instr.storeAt t v' u') :=
  (sim_sureAddr hv).bind fun τ hle x y hxy => sim_storeVar t hxy (hu.mono hle)

theorem sim_sizeOf' (t : TypeId) : Sim P (fun _ a b => a = b ∧ ∃ i, P.info? t = some i ∧ a = i.size) ρ (sizeOf t) (sizeOf t) :=
  (sim_typeInfo t).bind fun _ _ a b h => by obtain ⟨rfl, h⟩ := h; exact Sim.pure ⟨rfl, a, h, rfl⟩

theorem sim_fieldPlace (f : Field) (hf : fullType P f.type = true) {a a' : Addr} (ha : ARel ρ a a') : Sim P ARel ρ (fieldPlace a f) (fieldPlace a' f) := by
  refine (sim_sizeOf' f.type).bind fun σ hle n n' h => ?_
  obtain ⟨rfl, i, hi, rfl⟩ := h
  have : ¬ (i.size = 0) := by
    unfold fullType at hf
    rw [hi] at hf
    intro h0
    simp only [h0] at hf
    exact absurd hf (by decide)
  rw [if_neg this, if_neg this]
  exact Sim.pure ((ha.mono hle).add _)

def fieldFull (P : Program) (s : TypeId) (n : Nat) : Bool :=
  match P.underlying s with
  | some (.struct fs) => match fs[n]? with | some f => fullType P f.type | none => true
  | _ => true

theorem sim_fieldAt (s : TypeId) (n : Nat) (hf : fieldFull P s n = true) {v v' : Value} (hv : VRel ρ v v') : Sim P VRel ρ (Instr.fieldAt s v n) (Instr.fieldAt s v' n) := by
  refine (sim_underlying s).bind fun σ hle d d' h => ?_
  obtain ⟨rfl, hd⟩ := h
  cases d <;> first | exact Sim.halt_bind | exact Sim.halt | skip
  rename_i fs
  unfold fieldFull at hf
  rw [hd] at hf
  simp only at hf ⊢
  cases hfn : fs[n]? with
  | none => exact Sim.halt
  | some f =>
    rw [hfn] at hf
    refine (sim_sureAddr (hv.mono hle)).bind fun τ _ a a' haa => ?_
    exact (sim_fieldPlace f hf haa).bind fun _ _ x y hxy => Sim.pure (.ptr' hxy)

theorem sim_asIntOf {v v' : Value} (hv : VRel ρ v v') : Sim P (fun _ a b => a = b) ρ (asIntOf v) (asIntOf v') := by
  cases hv <;> first
    | exact Sim.halt
    | exact Sim.pure rfl
theorem sim_asInt {v v' : Value} (hv : VRel ρ v v') : Sim P (fun _ a b => a = b) ρ (asInt v) (asInt v') :=
  (sim_asIntOf hv).bind fun _ _ a b h => by subst h; exact Sim.pure rfl
theorem sim_asAgg {v v' : Value} (hv : VRel ρ v v') : Sim P VsRel ρ (asAgg v) (asAgg v') := by
  cases hv <;> first
    | exact Sim.halt
    | (rename_i n h; exact Sim.pure ⟨n, h⟩)

omit [Globs] in
omit [Holes] in
theorem arun_bind_none {α β : Type} {s : Sem α} {k : α → Sem β} {hp : Heap} (h : ∀ a h', arun P (k a) h' = none) : arun P (s >>= k) hp = none := by
  change arun P (s.bind k) hp = _
  rw [arun_bind]
  split
  · exact h _ _
  · rfl
omit [Globs] in
omit [Holes] in
theorem arun_bind_none' {α β : Type} {s : Sem α} {k : α → Sem β} (h : ∀ hp, arun P s hp = none) (hp : Heap) : arun P (s >>= k) hp = none := by
  change arun P (s.bind k) hp = _
  rw [arun_bind, h]
omit [Globs] in
omit [Holes] in
theorem arun_runtimePanic {α : Type} (e : RuntimeError) (hp : Heap) : arun P (runtimePanic e : Sem α) hp = none := by
  unfold runtimePanic
  refine arun_bind_none fun p h' => ?_
  cases e <;> first
    | rfl
    | exact arun_bind_none fun _ _ => arun_bind_none fun _ _ => rfl
theorem sim_runtimePanic {α β : Type} {R : Emb → α → β → Prop} {e : RuntimeError} {s' : Sem β} : Sim P R ρ (runtimePanic e : Sem α) s' :=
  Sim.none fun hp => arun_runtimePanic e hp
theorem sim_boundsPanic {α β : Type} {R : Emb → α → β → Prop} {k : IntKind} {x y : Int} {c : BoundsCode} {s' : Sem β} : Sim P R ρ (boundsPanic k x y c : Sem α) s' := by
  refine Sim.none fun hp => ?_
  unfold boundsPanic
  dsimp only
  split
  · exact arun_bind_none fun _ _ => arun_runtimePanic _ _
  · exact arun_bind_none fun _ _ => arun_runtimePanic _ _

omit [Globs] in
omit [Holes] in
theorem SRel.le {L : Loc} {o len cap o' cap' : Nat} (h : SRel L o len cap o' cap') : cap ≤ cap' := by
  rcases h with ⟨rfl, _⟩ | ⟨_, _, h, _⟩
  · exact Nat.le_refl _
  · exact h

theorem sim_indexAt (t : TypeId) {v v' u u' : Value} (hv : VRel ρ v v') (hu : VRel ρ u u') : Sim P VRel ρ (Instr.indexAt t v u) (Instr.indexAt t v' u') := by
  refine (sim_asIntOf hu).bind fun σ hle ki ki' h => ?_
  subst h
  obtain ⟨k, i⟩ := ki
  simp only
  refine (sim_underlying t).bind fun τ hle' d d' h => ?_
  obtain ⟨rfl, hd⟩ := h
  have hv' := (hv.mono hle).mono hle'
  have rest : ∀ (τ : Emb) (xb yb : Option Addr) (xl xe : Nat), (∀ a, xb = some a → 0 < xl → ∃ a', yb = some a' ∧ ARel τ a a') → (xb = none → yb = none) → ∀ (tiny : Bool),
      Sim P VRel τ (match xb with
        | some a => if 0 ≤ i ∧ i < (xl : Int) then do pure (.pointer (some (a.add (i.toNat * (← sizeOf xe)))))
          else if tiny = true then unsupported (.noEntry "op/indexAddr.an index out of range at an array of length 0 or 1 (ledger 616)") else boundsPanic k i xl .index
        | none => boundsPanic k i 0 .index) (match yb with
        | some a => if 0 ≤ i ∧ i < (xl : Int) then do pure (.pointer (some (a.add (i.toNat * (← sizeOf xe)))))
          else if tiny = true then unsupported (.noEntry "op/indexAddr.an index out of range at an array of length 0 or 1 (ledger 616)") else boundsPanic k i xl .index
        | none => boundsPanic k i 0 .index) := by
    intro τ xb yb xl xe h1 h2 tiny
    cases xb with
    | none => exact sim_boundsPanic
    | some a =>
      simp only
      by_cases hc : 0 ≤ i ∧ i < (xl : Int)
      · obtain ⟨a', e', haa⟩ := h1 a rfl (by omega)
        rw [e', if_pos hc]
        simp only
        rw [if_pos hc]
        refine (sim_sizeOf xe).bind fun τ'' hle₃ n n' hn => ?_
        subst hn
        exact Sim.pure (.ptr' ((haa.mono hle₃).add _))
      · rw [if_neg hc]
        split
        · exact Sim.halt
        · exact sim_boundsPanic
  cases d with
  | array n e =>
    simp only
    refine (sim_sureAddr hv').bind fun τ' _ a a' haa => ?_
    refine Sim.bind (R := fun σ x y => x = (some a, n, e) ∧ y = (some a', n, e) ∧ ARel σ a a') (Sim.pure ⟨rfl, rfl, haa⟩) ?_
    rintro τ₂ _ _ _ ⟨rfl, rfl, haa⟩
    refine (sim_underlying t).bind fun τ₃ hle₃ d d' h => ?_
    obtain ⟨rfl, _⟩ := h
    exact rest τ₃ (some a) (some a') n e (fun a₁ h₁ _ => by cases h₁; exact ⟨_, rfl, haa.mono hle₃⟩) (fun h₁ => by cases h₁) _
  | slice e =>
    cases hv' <;> first | exact Sim.halt_bind | exact Sim.halt | skip
    · refine Sim.bind (R := fun σ x y => x = (none, _, e) ∧ y = (none, _, e)) (Sim.pure ⟨rfl, rfl⟩) ?_
      rintro τ₂ _ _ _ ⟨rfl, rfl⟩
      refine (sim_underlying t).bind fun τ₃ hle₃ d d' h => ?_
      obtain ⟨rfl, _⟩ := h
      exact sim_boundsPanic
    · rename_i b o len cap o' cap' L h hs
      refine Sim.bind (R := fun σ x y => x = (some ⟨b, o, none⟩, len, e) ∧ y = (some ⟨L.blk, o', none⟩, len, e) ∧ σ b = some L) (Sim.pure ⟨rfl, rfl, h⟩) ?_
      rintro τ₂ _ _ _ ⟨rfl, rfl, h⟩
      refine (sim_underlying t).bind fun τ₃ hle₃ d d' h' => ?_
      obtain ⟨rfl, _⟩ := h'
      refine rest τ₃ (some _) (some _) len e (fun a₁ h₁ hlt => ?_) (fun h₁ => by cases h₁) _
      cases h₁
      refine ⟨_, rfl, L, hle₃ _ _ h, rfl, ?_⟩
      have : o' = L.off + o := by
        rcases hs with ⟨_, h'⟩ | ⟨_, _, _, _, h' | h'⟩
        · exact h'
        · exact h'
        · omega
      rw [this]
  | _ => cases hv' <;> first | exact Sim.halt_bind | exact Sim.halt

theorem sim_part (t : TypeId) {xs ys : Array Value} (h : VsRel ρ xs ys) (o : Nat) : Sim P VRel ρ (part t xs o) (part t ys o) := by
  refine (sim_isAgg t).bind fun σ hle b b' hb => ?_
  subst hb
  cases b with
  | true =>
    refine (sim_sizeOf t).bind fun σ' hle' n n' hn => ?_
    subst hn
    have := ((h.mono hle).mono hle').extract o (o + n)
    exact Sim.pure (.agg this.1 this.2)
  | false =>
    simp only [Bool.false_eq_true, if_false]
    cases hx : xs[o]? with
    | none => exact Sim.halt
    | some x =>
      obtain ⟨y, hy, hv⟩ := h.get hx
      rw [hy]
      exact Sim.pure (hv.mono hle)

theorem sim_field (t : TypeId) {v v' : Value} (hv : VRel ρ v v') (n : Nat) : Sim P VRel ρ (Instr.field t v n) (Instr.field t v' n) := by
  refine (sim_underlying t).bind fun σ hle d d' h => ?_
  obtain ⟨rfl, hd⟩ := h
  cases d <;> first | exact Sim.halt | skip
  rename_i fs
  simp only
  cases hfn : fs[n]? with
  | none => exact Sim.halt
  | some f => exact (sim_asAgg (hv.mono hle)).bind fun τ _ xs ys hxs => sim_part f.type hxs f.offset

theorem sim_index (t : TypeId) {v v' u u' : Value} (hv : VRel ρ v v') (hu : VRel ρ u u') : Sim P VRel ρ (Instr.index t v u) (Instr.index t v' u') := by
  refine (sim_asIntOf hu).bind fun σ hle ki ki' h => ?_
  subst h
  obtain ⟨k, i⟩ := ki
  simp only
  refine (sim_underlying t).bind fun τ hle' d d' h => ?_
  obtain ⟨rfl, hd⟩ := h
  have hv' := (hv.mono hle).mono hle'
  cases d with
  | array n e =>
    cases hv' <;> first | exact Sim.halt | skip
    rename_i xs ys hn hxs
    refine Sim.ite (fun _ => ?_) (fun _ => sim_boundsPanic)
    refine (sim_sizeOf e).bind fun τ' hle'' n n' hn' => ?_
    subst hn'
    exact sim_part e (VsRel.mono hle'' ⟨hn, hxs⟩) _
  | string =>
    cases hv' <;> first | exact Sim.halt | skip
    rename_i s
    simp only
    split
    · exact Sim.pure (.int _ _)
    · exact sim_boundsPanic
  | _ => cases hv' <;> exact Sim.halt

theorem sim_extract {v v' : Value} (hv : VRel ρ v v') (n : Nat) : Sim P VRel ρ (Instr.extract v n) (Instr.extract v' n) := by
  cases hv <;> first | exact Sim.halt | skip
  rename_i xs ys hn hxs
  unfold Instr.extract
  simp only
  cases hx : xs[n]? with
  | none => exact Sim.halt
  | some x =>
    obtain ⟨y, hy, h⟩ := VsRel.get ⟨hn, hxs⟩ hx
    rw [hy]
    exact Sim.pure h

theorem sim_makeInterface (t : TypeId) {v v' : Value} (hv : VRel ρ v v') : Sim P VRel ρ (Instr.makeInterface t v) (Instr.makeInterface t v') := by
  refine (sim_underlying t).bind fun σ hle d d' h => ?_
  obtain ⟨rfl, hd⟩ := h
  cases d <;> first | exact Sim.halt | exact Sim.pure (.iface (hv.mono hle))

/-! ### build -/
inductive All2 {α β : Type} (R : α → β → Prop) : List α → List β → Prop
  | nil : All2 R [] []
  | cons {a : α} {b : β} {as : List α} {bs : List β} (h : R a b) (t : All2 R as bs) : All2 R (a :: as) (b :: bs)
def PsRel (ρ : Emb) (ps qs : List (Nat × Value)) : Prop := All2 (fun p q => p.1 = q.1 ∧ VRel ρ p.2 q.2) ps qs

omit [Globs] in
theorem foldl_set {ρ : Emb} : ∀ (us vs : List (Value × Nat)) (off : Nat) (xs ys : Array Value), VsRel ρ xs ys → All2 (fun p q => p.2 = q.2 ∧ VRel ρ p.1 q.1) us vs →
    VsRel ρ (us.foldl (fun cs p => cs.setIfInBounds (off + p.2) p.1) xs) (vs.foldl (fun cs p => cs.setIfInBounds (off + p.2) p.1) ys) := by
  intro us vs off xs ys h hf
  induction hf generalizing xs ys with
  | nil => exact h
  | cons hpq _ ih =>
    simp only [List.foldl_cons]
    rw [← hpq.1]
    exact ih _ _ (h.set hpq.2 _)

omit [Globs] in
theorem zipIdx_rel {ρ : Emb} : ∀ (us vs : List Value) (n : Nat), us.length = vs.length → (∀ (j : Nat) (x y : Value), us[j]? = some x → vs[j]? = some y → VRel ρ x y) →
    All2 (fun p q => p.2 = q.2 ∧ VRel ρ p.1 q.1) (us.zipIdx n) (vs.zipIdx n) := by
  intro us
  induction us with
  | nil => intro vs n hn _; cases vs with
    | nil => exact .nil
    | cons y ys => simp at hn
  | cons u us ih =>
    intro vs n hn h
    cases vs with
    | nil => simp at hn
    | cons y ys =>
      exact .cons ⟨rfl, h 0 u y rfl rfl⟩ (ih ys (n + 1) (by simpa using hn) fun j x z hx hz => h (j + 1) x z (by simpa using hx) (by simpa using hz))

omit [Globs] in
theorem fill_rel {ρ : Emb} (place : Nat → Option (Nat × Nat)) : ∀ (ps qs : List (Nat × Value)) (xs ys : Array Value), PsRel ρ ps qs → VsRel ρ xs ys →
    (Instr.fill place xs ps = none ∧ Instr.fill place ys qs = none) ∨ ∃ zs zs', Instr.fill place xs ps = some zs ∧ Instr.fill place ys qs = some zs' ∧ VsRel ρ zs zs' := by
  intro ps qs xs ys h hxs
  induction h generalizing xs ys with
  | nil => exact .inr ⟨xs, ys, rfl, rfl, hxs⟩
  | @cons p q ps qs hpq _ ih =>
    obtain ⟨i, v⟩ := p
    obtain ⟨j, v'⟩ := q
    obtain ⟨hij, hv⟩ := hpq
    simp only at hij hv
    subst hij
    simp only [Instr.fill]
    cases place i with
    | none => exact .inl ⟨rfl, rfl⟩
    | some os =>
      obtain ⟨off, size⟩ := os
      simp only
      have hc := hv.cells
      rw [← hc.1, ← hxs.1]
      by_cases hx : v.cells.size ≠ size ∨ off + v.cells.size > xs.size
      · rw [if_pos (by simpa using hx), if_pos (by simpa using hx)]
        exact .inl ⟨rfl, rfl⟩
      · rw [if_neg (by simpa using hx), if_neg (by simpa using hx)]
        refine ih _ _ ?_
        rw [← Array.foldl_toList, ← Array.foldl_toList, Array.toList_zipIdx, Array.toList_zipIdx]
        exact foldl_set _ _ off xs ys hxs (zipIdx_rel _ _ 0 hc.list.1 hc.list.2)

end sims
end Go.Ev
