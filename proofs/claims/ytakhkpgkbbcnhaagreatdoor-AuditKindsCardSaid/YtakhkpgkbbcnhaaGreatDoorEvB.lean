/- The concrete evaluator, part B: what keeps the relation of the abstract heap and the world; loads, stores, allocations. -/
import Derived.Test.YtakhkpgkbbcnhaaGreatDoorEvA
namespace Go.Ev
open Go
variable [Globs] [Holes]

def Emb.add (ρ : Emb) (b : Nat) (L : Loc) : Emb := fun k => if k = b then some L else ρ k
omit [Globs] in
omit [Holes] in
theorem Emb.le_add {ρ : Emb} {b : Nat} (L : Loc) (h : ρ b = none) : ρ.le (ρ.add b L) := by
  intro k M e
  unfold Emb.add
  split
  · rename_i hk; subst hk; rw [h] at e; exact absurd e (by simp)
  · exact e
omit [Globs] in
omit [Holes] in
theorem Emb.add_self (ρ : Emb) (b : Nat) (L : Loc) : ρ.add b L b = some L := by simp [Emb.add]
omit [Globs] in
omit [Holes] in
theorem Emb.add_other (ρ : Emb) {b k : Nat} (L : Loc) (h : k ≠ b) : ρ.add b L k = ρ k := by simp [Emb.add, h]

theorem Inv.next_none {F : Facts} {ρ : Emb} {h : Heap} {w : World} (i : Inv F ρ h w) : ρ h.next = none := by
  cases e : ρ h.next with
  | none => rfl
  | some L => exact absurd (i.dom _ _ e).1 (Nat.lt_irrefl _)

/-- A new block. -/
theorem Inv.push {F : Facts} {ρ : Emb} {h h' : Heap} {w : World} (i : Inv F ρ h w) {o o' : Obj} {L : Loc} (e : h.push o = some h') (hL : L.blk = w.heap.size)
    (ho : ORel (ρ.add h.next L) L o o') : Inv F (ρ.add h.next L) h' { w with heap := w.heap.push o' } := by
  obtain ⟨hn, hg⟩ := Heap.get_push e
  have hle : ρ.le (ρ.add h.next L) := Emb.le_add L i.next_none
  have hblk : ∀ b M, ρ b = some M → M.blk ≠ L.blk := fun b M hb => by rw [hL]; exact Nat.ne_of_lt (i.dom _ _ hb).2
  refine ⟨i.tape, i.os, i.output, i.base, i.glob.mono hle, ?_, ?_, ?_, ?_, ?_, ?_, fun b hb => ?_⟩
  rotate_right
  · obtain ⟨h1, h2⟩ := i.unb b hb
    exact ⟨by rw [Emb.add_other _ _ (Nat.ne_of_lt h2)]; exact h1, by rw [hn]; omega⟩
  · intro k o₁ hk
    have := i.facts k o₁ hk
    have hlt : k < w.heap.size := (Array.getElem?_eq_some_iff.1 this).1
    simp only [Array.getElem?_push, Nat.ne_of_lt hlt, if_false]
    exact this
  · intro b o₁ M hb hM
    rw [hg] at hb
    split at hb
    · rename_i hbn
      simp only [Option.some.injEq] at hb
      subst hb; subst hbn
      rw [Emb.add_self] at hM
      cases hM
      exact ⟨o', by simp [hL], ho⟩
    · rename_i hbn
      rw [Emb.add_other _ _ hbn] at hM
      obtain ⟨o₂, ho₂, hr⟩ := i.live b o₁ M hb hM
      refine ⟨o₂, ?_, hr.mono hle⟩
      have hlt : M.blk < w.heap.size := (i.dom _ _ hM).2
      simp only [Array.getElem?_push, Nat.ne_of_lt hlt, if_false]
      exact ho₂
  · intro b b' o₁ o₂ M M' hb hb' hM hM' hMM
    rw [hg] at hb hb'
    split at hb
    · rename_i hbn
      split at hb'
      · rename_i hbn'; rw [hbn, hbn']
      · rename_i hbn'
        subst hbn
        rw [Emb.add_self] at hM
        rw [Emb.add_other _ _ hbn'] at hM'
        cases hM
        exact absurd hMM.symm (hblk _ _ hM')
    · rename_i hbn
      split at hb'
      · rename_i hbn'
        subst hbn'
        rw [Emb.add_self] at hM'
        rw [Emb.add_other _ _ hbn] at hM
        cases hM'
        exact absurd hMM (hblk _ _ hM)
      · rename_i hbn'
        rw [Emb.add_other _ _ hbn] at hM
        rw [Emb.add_other _ _ hbn'] at hM'
        exact i.inj b b' o₁ o₂ M M' hb hb' hM hM' hMM
  · intro b o₁ M k o₂ hb hM hk hro
    rw [hg] at hb
    split at hb
    · rename_i hbn
      subst hbn
      rw [Emb.add_self] at hM
      cases hM
      have hlt : k < w.heap.size := (Array.getElem?_eq_some_iff.1 (i.facts k o₂ hk)).1
      rw [hL]; omega
    · rename_i hbn
      rw [Emb.add_other _ _ hbn] at hM
      exact i.apart b o₁ M k o₂ hb hM hk hro
  · intro b M hb
    by_cases hbn : b = h.next
    · subst hbn
      rw [Emb.add_self] at hb
      cases hb
      exact ⟨by rw [hn]; omega, by simp [hL]⟩
    · rw [Emb.add_other _ _ hbn] at hb
      have := i.dom _ _ hb
      exact ⟨by rw [hn]; omega, by simp; omega⟩
  · intro b o₁ hb
    rw [hg] at hb
    split at hb
    · rename_i hbn; rw [hn, hbn]; omega
    · have := i.named _ _ hb; rw [hn]; omega

/-- A name given before its block is there. -/
def Facts.ghost (F : Facts) (b : Nat) : Facts := { F with unborn := fun c => c = b ∨ F.unborn c }
theorem Inv.ghost {F : Facts} {ρ : Emb} {h h' : Heap} {w : World} (i : Inv F ρ h w) {o : Obj} (e : h.push o = some h') : Inv (F.ghost h.next) ρ h' w := by
  obtain ⟨hn, hg⟩ := Heap.get_push e
  have old : ∀ b o₁ L, h'.get b = some o₁ → ρ b = some L → h.get b = some o₁ := by
    intro b o₁ L hb hL
    rw [hg] at hb
    split at hb
    · rename_i hbn; rw [hbn, i.next_none] at hL; exact absurd hL (by simp)
    · exact hb
  refine ⟨i.tape, i.os, i.output, i.base, i.glob, i.facts, fun b o₁ L hb hL => i.live b o₁ L (old _ _ _ hb hL) hL, fun b b' o₁ o₂ L L' hb hb' hL hL' => i.inj b b' o₁ o₂ L L' (old _ _ _ hb hL) (old _ _ _ hb' hL') hL hL',
    fun b o₁ L k o' hb hL hk hro => i.apart b o₁ L k o' (old _ _ _ hb hL) hL hk hro, fun b L hb => ⟨by rw [hn]; have := (i.dom b L hb).1; omega, (i.dom b L hb).2⟩, ?_, ?_⟩
  · intro b o₁ hb
    rw [hg] at hb
    split at hb
    · rename_i hbn; rw [hn, hbn]; omega
    · have := i.named _ _ hb; rw [hn]; omega
  · intro b hb
    rcases hb with rfl | hb
    · exact ⟨i.next_none, by rw [hn]; omega⟩
    · exact ⟨(i.unb b hb).1, by rw [hn]; have := (i.unb b hb).2; omega⟩

/-- Its block comes. -/
theorem Inv.birth {F : Facts} {ρ : Emb} {h : Heap} {w : World} (i : Inv F ρ h w) {b : Nat} {o o' : Obj} {L : Loc} (hu : F.unborn b) (hb : h.get b = some o) (hL : L.blk = w.heap.size)
    (ho : ORel (ρ.add b L) L o o') (G : Nat → Prop) (hG : ∀ c, G c → F.unborn c ∧ c ≠ b) : Inv { F with unborn := G } (ρ.add b L) h { w with heap := w.heap.push o' } := by
  obtain ⟨hun, hbn⟩ := i.unb b hu
  have hle : ρ.le (ρ.add b L) := Emb.le_add L hun
  have hblk : ∀ c M, ρ c = some M → M.blk ≠ L.blk := fun c M hc => by rw [hL]; exact Nat.ne_of_lt (i.dom _ _ hc).2
  refine ⟨i.tape, i.os, i.output, i.base, i.glob.mono hle, ?_, ?_, ?_, ?_, ?_, i.named, ?_⟩
  · intro k o₁ hk
    have := i.facts k o₁ hk
    have hlt : k < w.heap.size := (Array.getElem?_eq_some_iff.1 this).1
    simp only [Array.getElem?_push, Nat.ne_of_lt hlt, if_false]
    exact this
  · intro c o₁ M hc hM
    by_cases hcb : c = b
    · subst hcb
      rw [hb] at hc
      cases hc
      rw [Emb.add_self] at hM
      cases hM
      exact ⟨o', by simp [hL], ho⟩
    · rw [Emb.add_other _ _ hcb] at hM
      obtain ⟨o₂, ho₂, hr⟩ := i.live c o₁ M hc hM
      refine ⟨o₂, ?_, hr.mono hle⟩
      have hlt : M.blk < w.heap.size := (i.dom _ _ hM).2
      simp only [Array.getElem?_push, Nat.ne_of_lt hlt, if_false]
      exact ho₂
  · intro c c' o₁ o₂ M M' hc hc' hM hM' hMM
    by_cases hcb : c = b
    · by_cases hcb' : c' = b
      · rw [hcb, hcb']
      · rw [hcb, Emb.add_self] at hM
        rw [Emb.add_other _ _ hcb'] at hM'
        cases hM
        exact absurd hMM.symm (hblk _ _ hM')
    · by_cases hcb' : c' = b
      · rw [hcb', Emb.add_self] at hM'
        rw [Emb.add_other _ _ hcb] at hM
        cases hM'
        exact absurd hMM (hblk _ _ hM)
      · rw [Emb.add_other _ _ hcb] at hM
        rw [Emb.add_other _ _ hcb'] at hM'
        exact i.inj c c' o₁ o₂ M M' hc hc' hM hM' hMM
  · intro c o₁ M k o₂ hc hM hk hro
    by_cases hcb : c = b
    · rw [hcb, Emb.add_self] at hM
      cases hM
      have hlt : k < w.heap.size := (Array.getElem?_eq_some_iff.1 (i.facts k o₂ hk)).1
      rw [hL]; omega
    · rw [Emb.add_other _ _ hcb] at hM
      exact i.apart c o₁ M k o₂ hc hM hk hro
  · intro c M hc
    by_cases hcb : c = b
    · rw [hcb, Emb.add_self] at hc
      cases hc
      exact ⟨by rw [hcb]; exact hbn, by simp [hL]⟩
    · rw [Emb.add_other _ _ hcb] at hc
      have := i.dom _ _ hc
      exact ⟨this.1, by simp; omega⟩
  · intro c hc
    obtain ⟨h1, h2⟩ := hG c hc
    exact ⟨by rw [Emb.add_other _ _ h2]; exact (i.unb c h1).1, (i.unb c h1).2⟩
theorem Inv.forget {F : Facts} {ρ : Emb} {h : Heap} {w : World} (i : Inv F ρ h w) {G : Nat → Prop} (hG : ∀ c, G c → F.unborn c) : Inv { F with unborn := G } ρ h w :=
  ⟨i.tape, i.os, i.output, i.base, i.glob, i.facts, i.live, i.inj, i.apart, i.dom, i.named, fun c hc => i.unb c (hG c hc)⟩

/-- A live block turned. -/
theorem Inv.turn {F : Facts} {ρ : Emb} {h h' : Heap} {w w' : World} (i : Inv F ρ h w) {b : Nat} {o₀ o o' : Obj} {L : Loc} (hb : h.get b = some o₀) (hro₀ : roObj o₀ = false) (e : h.set b (some o) = some h') (hL : ρ b = some L)
    (ho : ORel ρ L o o') (ht : w'.tape = w.tape) (hos : w'.os = w.os) (hout : w'.output = w.output) (hsz : w'.heap.size = w.heap.size)
    (hnew : w'.heap[L.blk]? = some o') (hsame : ∀ k, k ≠ L.blk → w'.heap[k]? = w.heap[k]?) : Inv F ρ h' w' := by
  obtain ⟨hn, hg⟩ := Heap.get_set e
  have back : ∀ c o₁, h'.get c = some o₁ → ∃ o₂, h.get c = some o₂ := fun c o₁ hc => by
    rw [hg] at hc
    split at hc
    · rename_i hcb; subst hcb; exact ⟨_, hb⟩
    · exact ⟨_, hc⟩
  refine ⟨ht.trans i.tape, hos.trans i.os, hout.trans i.output, i.base, i.glob, ?_, ?_, ?_, ?_, ?_, ?_, fun b hb => ⟨(i.unb b hb).1, by rw [hn]; exact (i.unb b hb).2⟩⟩
  · intro k o₁ hk
    rw [hsame k (i.apart b o₀ L k o₁ hb hL hk hro₀).symm]
    exact i.facts k o₁ hk
  · intro c o₁ M hc hM
    rw [hg] at hc
    split at hc
    · rename_i hcb
      simp only [Option.some.injEq] at hc
      subst hc; subst hcb
      rw [hL] at hM
      cases hM
      exact ⟨o', hnew, ho⟩
    · rename_i hcb
      obtain ⟨o₂, ho₂, hr⟩ := i.live c o₁ M hc hM
      refine ⟨o₂, ?_, hr⟩
      rw [hsame _ (fun x => hcb (i.inj c b o₁ o₀ M L hc hb hM hL x))]
      exact ho₂
  · intro c c' o₁ o₂ M M' hc hc' hM hM' hMM
    obtain ⟨p, hp⟩ := back c o₁ hc
    obtain ⟨q, hq⟩ := back c' o₂ hc'
    exact i.inj c c' p q M M' hp hq hM hM' hMM
  · intro c o₁ M k o₂ hc hM hk hro
    rw [hg] at hc
    split at hc
    · rename_i hcb
      subst hcb
      exact i.apart c o₀ M k o₂ hb hM hk hro₀
    · exact i.apart c o₁ M k o₂ hc hM hk hro
  · intro c M hc
    have := i.dom _ _ hc
    exact ⟨by rw [hn]; exact this.1, by rw [hsz]; exact this.2⟩
  · intro c o₁ hc
    obtain ⟨p, hp⟩ := back c o₁ hc
    rw [hn]; exact i.named _ _ hp

/-- Addresses alike. -/
def ARel (ρ : Emb) (a a' : Addr) : Prop := ∃ L, ρ a.block = some L ∧ a.spot = none ∧ a' = ⟨L.blk, L.off + a.off, none⟩
omit [Globs] in
omit [Holes] in
theorem ARel.mono {ρ σ : Emb} (hle : ρ.le σ) {a a' : Addr} (h : ARel ρ a a') : ARel σ a a' := by
  obtain ⟨L, h1, h2, h3⟩ := h
  exact ⟨L, hle _ _ h1, h2, h3⟩
omit [Globs] in
omit [Holes] in
theorem ARel.add {ρ : Emb} {a a' : Addr} (h : ARel ρ a a') (n : Nat) : ARel ρ (a.add n) (a'.add n) := by
  obtain ⟨L, h1, h2, rfl⟩ := h
  obtain ⟨b, o, s⟩ := a
  simp only at h1 h2
  subst h2
  unfold Addr.add
  split
  · exact ⟨L, h1, rfl, rfl⟩
  · exact ⟨L, h1, rfl, by simp [Nat.add_assoc]⟩
omit [Globs] in
theorem VRel.ptr' {ρ : Emb} {a a' : Addr} (h : ARel ρ a a') : VRel ρ (.pointer (some a)) (.pointer (some a')) := by
  obtain ⟨L, h1, h2, rfl⟩ := h
  obtain ⟨b, o, s⟩ := a
  simp only at h1 h2
  subst h2
  exact .ptr h1

section
variable {P : Program} {F : Facts} {ρ : Emb} {h : Heap} {w : World}

theorem Inv.cell (i : Inv F ρ h w) {a a' : Addr} (ha : ARel ρ a a') {v : Value} (hv : h.cell a = some v) :
    ∃ v', w.cell? a' = some v' ∧ VRel ρ v v' ∧ w.frozen? a' = false := by
  obtain ⟨L, h1, h2, rfl⟩ := ha
  unfold Heap.cell at hv
  split at hv
  · rename_i c e fr hg
    rw [h2] at hv
    simp only [Option.isSome_none, Bool.false_eq_true, if_false] at hv
    obtain ⟨o', ho', hr⟩ := i.live _ _ _ hg h1
    cases o' <;> simp only [ORel] at hr
    rename_i c' e' fr'
    obtain ⟨_, _, r3, r4, r5, r6, r7⟩ := hr
    have hlt : a.off < c.size := (Array.getElem?_eq_some_iff.1 hv).1
    have hlt' : L.off + a.off < c'.size := by omega
    refine ⟨c'[L.off + a.off], ?_, r6 a.off v _ hv (Array.getElem?_eq_getElem hlt'), ?_⟩
    · simp [World.cell?, ho', hlt']
    · have := noFr r7 (L.off + a.off) (by omega)
      simp only [World.frozen?, ho', decide_eq_false_iff_not, Bool.and_eq_false_iff]
      by_cases hx : fr'.1 ≤ L.off + a.off
      · exact .inr fun hy => this ⟨hx, hy⟩
      · exact .inl hx
  · exact absurd hv (by simp)

theorem Inv.setCell (i : Inv F ρ h w) {a a' : Addr} (ha : ARel ρ a a') {v v' : Value} (hv : VRel ρ v v') {h' : Heap} (e : h.setCell a v = some h') :
    (∃ x, w.cell? a' = some x) ∧ w.frozen? a' = false ∧ Inv F ρ h' (w.setCell a' v') := by
  obtain ⟨L, h1, h2, ha'⟩ := ha
  unfold Heap.setCell at e
  split at e
  · rename_i c el fr hg
    rw [h2] at e
    simp only [Option.isNone_none, Bool.true_and, Bool.and_eq_true, decide_eq_true_eq, Bool.not_eq_true'] at e
    split at e
    · rename_i hlt0
      obtain ⟨hlt, hro⟩ := hlt0
      have hc : h.cell a = some c[a.off] := by simp [Heap.cell, hg, h2, hlt]
      obtain ⟨x, hx, _, hfz⟩ := i.cell ⟨L, h1, h2, ha'⟩ hc
      refine ⟨⟨x, hx⟩, hfz, ?_⟩
      obtain ⟨o', ho', hr⟩ := i.live _ _ _ hg h1
      cases o' <;> simp only [ORel] at hr
      rename_i c' e' fr'
      obtain ⟨r1, r2, r3, r4, r5, r6, r7⟩ := hr
      subst ha'
      refine i.turn (o' := .cells (c'.setIfInBounds (L.off + a.off) v') e' fr') hg hro e h1 ?_ rfl rfl rfl ?_ ?_ ?_
      · refine ⟨r1, r2, by simp [r3], by simp [r4], r5, ?_, r7⟩
        intro j u u' hu hu'
        rw [Array.getElem?_setIfInBounds] at hu hu'
        by_cases hj : a.off = j
        · subst hj
          simp only [if_true, hlt, if_true] at hu
          simp only [if_true] at hu'
          rw [if_pos (by omega)] at hu'
          cases hu; cases hu'; exact hv
        · rw [if_neg hj] at hu
          rw [if_neg (by omega)] at hu'
          exact r6 j u u' hu hu'
      · simp [World.setCell]
      · simp only [World.setCell, Array.getElem?_modify, if_true, ho']
        rfl
      · intro k hk
        simp only [World.setCell, Array.getElem?_modify]
        rw [if_neg (fun x => hk x.symm)]
    · exact absurd e (by simp)
  · exact absurd e (by simp)
end

def one : Value → Bool
  | .agg _ | .tuple _ => false
  | _ => true

section sims
variable {P : Program} {ρ : Emb}

theorem sim_load {a a' : Addr} (m : Go.Mode) (h : ARel ρ a a') : Sim P VRel ρ (load a m) (load a' m) := by
  intro F hp w v h₁ hi ha
  simp only [load, arun] at ha
  split at ha
  · rename_i x hx
    simp only [Option.some.injEq, Prod.mk.injEq] at ha
    obtain ⟨rfl, rfl⟩ := ha
    obtain ⟨v', hv', hr, _⟩ := hi.cell h hx
    exact ⟨ρ, v', w, by simp [load, Sem.run, hv'], Emb.le_refl _, hi, hr⟩
  · exact absurd ha (by simp)

theorem sim_store {a a' : Addr} {v v' : Value} (m : Go.Mode) (h : ARel ρ a a') (hv : VRel ρ v v') : Sim P (fun _ _ _ => True) ρ (store a v m) (store a' v' m) := by
  intro F hp w u h₁ hi ha
  have key : ∀ (hh : one v = true), (match hp.setCell a v with | some h' => arun P (Sem.pure ()) h' | none => none) = some (u, h₁) →
      ∃ σ b w₁, (store a' v' m).run P w = .ok b w₁ ∧ ρ.le σ ∧ Inv F σ h₁ w₁ ∧ True := by
    intro hh ha
    split at ha
    · rename_i h' e
      simp only [arun, Option.some.injEq, Prod.mk.injEq] at ha
      obtain ⟨_, rfl⟩ := ha
      obtain ⟨⟨x, hx⟩, hf, hi'⟩ := hi.setCell h hv e
      refine ⟨ρ, (), w.setCell a' v', ?_, Emb.le_refl _, hi', trivial⟩
      have : (one v' = true) := by
        cases hv with
        | hole k h _ => cases v' <;> first | rfl | exact absurd h Bool.false_ne_true
        | _ => first | rfl | simp [one] at hh
      cases v' <;> first | (simp [one] at this; done) | simp [store, Sem.run, hx, hf]
    · exact absurd ha (by simp)
  cases v <;> first
    | (simp [store, arun] at ha; done)
    | exact key rfl ha

/-- What 'newObj' gives. -/
def NewRel (σ : Emb) (r r' : Nat) : Prop := ∃ L, σ r = some L ∧ L.blk = r' ∧ L.off = 0

theorem sim_newCells {c c' : Array Value} (e e' : TypeId) (h : VsRel ρ c c') : Sim P NewRel ρ (newObj (.cells c e)) (newObj (.cells c' e')) := by
  intro F hp w r h₁ hi ha
  simp only [newObj, arun] at ha
  split at ha
  · rename_i h' eh
    simp only [Option.some.injEq, Prod.mk.injEq] at ha
    obtain ⟨rfl, rfl⟩ := ha
    obtain ⟨L, hL⟩ : ∃ L : Loc, L = ⟨w.heap.size, 0, c'.size, c.size, 0, false⟩ := ⟨_, rfl⟩
    have hle := Emb.le_add L hi.next_none
    refine ⟨ρ.add hp.next L, w.heap.size, { w with heap := w.heap.push (.cells c' e') }, by simp [newObj, Sem.run], hle, ?_, L, Emb.add_self _ _ _, by rw [hL], by rw [hL]⟩
    refine hi.push eh (by rw [hL]) ?_
    subst hL
    refine ⟨rfl, rfl, rfl, rfl, by simp [h.1], fun j v v' hv hv' => (h.2 j v v' hv (by simpa using hv')).mono hle, .inl rfl⟩
  · exact absurd ha (by simp)

/-- A new block that is no cells: what it needs to be alike. -/
theorem sim_newObj {o o' : Obj} (hc : noCells o = true) (h : ∀ σ, ρ.le σ → ∀ L : Loc, L.off = 0 → ORel σ L o o') : Sim P NewRel ρ (newObj o) (newObj o') := by
  intro F hp w r h₁ hi ha
  have key : (if okObj o then (match hp.push o with | some h' => arun P (Sem.pure hp.next) h' | none => none) else none) = some (r, h₁) →
      ∃ σ b w₁, (newObj o').run P w = .ok b w₁ ∧ ρ.le σ ∧ Inv F σ h₁ w₁ ∧ NewRel σ r b := by
    intro ha
    split at ha
    · split at ha
      · rename_i h' eh
        simp only [arun, Option.some.injEq, Prod.mk.injEq] at ha
        obtain ⟨rfl, rfl⟩ := ha
        obtain ⟨L, hL⟩ : ∃ L : Loc, L = ⟨w.heap.size, 0, 0, 0, 0, false⟩ := ⟨_, rfl⟩
        have hle := Emb.le_add L hi.next_none
        refine ⟨ρ.add hp.next L, w.heap.size, { w with heap := w.heap.push o' }, by simp [newObj, Sem.run], hle, ?_, L, Emb.add_self _ _ _, by rw [hL], by rw [hL]⟩
        exact hi.push eh (by rw [hL]) (h _ hle L (by rw [hL]))
      · exact absurd ha (by simp)
    · exact absurd ha (by simp)
  cases o <;> first
    | (simp [noCells] at hc; done)
    | exact key ha

theorem sim_getObj {r r' : Nat} {L : Loc} (hr : ρ r = some L) (hr' : L.blk = r') : Sim P (fun σ o o' => ORel σ L o o' ∧ noCells o = true) ρ (getObj r) (getObj r') := by
  intro F hp w o h₁ hi ha
  simp only [getObj, arun] at ha
  split at ha
  · rename_i o₁ ho
    split at ha
    · rename_i hn
      simp only [Option.some.injEq, Prod.mk.injEq] at ha
      obtain ⟨rfl, rfl⟩ := ha
      obtain ⟨o', ho', hrel⟩ := hi.live _ _ _ ho hr
      refine ⟨ρ, o', w, ?_, Emb.le_refl _, hi, hrel, hn⟩
      rw [← hr']
      simp only [getObj, Sem.run, ho']
      cases o₁ <;> cases o' <;> first | (simp [ORel] at hrel; done) | (simp [noCells] at hn; done) | rfl
    · exact absurd ha (by simp)
  · exact absurd ha (by simp)

theorem sim_setObj {r r' : Nat} {L : Loc} {o o' : Obj} (hr : ρ r = some L) (hr' : L.blk = r') (ho : ORel ρ L o o') : Sim P (fun _ _ _ => True) ρ (setObj r o) (setObj r' o') := by
  intro F hp w u h₁ hi ha
  simp only [setObj, arun] at ha
  split at ha
  · rename_i o₁ ho₁
    split at ha
    · rename_i hn
      simp only [Bool.and_eq_true] at hn
      split at ha
      · rename_i h' eh
        simp only [Option.some.injEq, Prod.mk.injEq] at ha
        obtain ⟨_, rfl⟩ := ha
        obtain ⟨o₂, ho₂, hrel⟩ := hi.live _ _ _ ho₁ hr
        have hlt : L.blk < w.heap.size := (Array.getElem?_eq_some_iff.1 ho₂).1
        refine ⟨ρ, (), { w with heap := w.heap.setIfInBounds r' o' }, ?_, Emb.le_refl _, ?_, trivial⟩
        · rw [← hr']
          simp only [setObj, Sem.run, ho₂]
          cases o₁ <;> cases o₂ <;> first | (simp [ORel] at hrel; done) | (simp [noCells] at hn; done) | rfl
        · subst hr'
          refine hi.turn ho₁ (ro_noCells hn.1.1) eh hr ho rfl rfl rfl (by simp) ?_ ?_
          · simp [hlt]
          · intro k hk
            simp only [Array.getElem?_setIfInBounds]
            rw [if_neg (fun x => hk x.symm)]
      · exact absurd ha (by simp)
    · exact absurd ha (by simp)
  · exact absurd ha (by simp)

/-! ### What only asks the program -/
theorem sim_typeInfo (t : TypeId) : Sim P (fun _ a b => a = b ∧ P.info? t = some a) ρ (typeInfo t) (typeInfo t) := by
  refine Sim.program ?_
  cases P.info? t with
  | none => exact Sim.halt
  | some i => exact Sim.pure ⟨rfl, rfl⟩
theorem sim_underlying (t : TypeId) : Sim P (fun _ a b => a = b ∧ P.underlying t = some a) ρ (underlying t) (underlying t) := by
  refine Sim.program ?_
  cases P.underlying t with
  | none => exact Sim.halt
  | some i => exact Sim.pure ⟨rfl, rfl⟩
theorem sim_sizeOf (t : TypeId) : Sim P (fun _ a b => a = b) ρ (sizeOf t) (sizeOf t) :=
  (sim_typeInfo t).bind fun _ _ a b h => by obtain ⟨rfl, _⟩ := h; exact Sim.pure rfl
theorem sim_isAgg (t : TypeId) : Sim P (fun _ a b => a = b) ρ (isAgg t) (isAgg t) :=
  (sim_underlying t).bind fun _ _ a b h => by obtain ⟨rfl, _⟩ := h; cases a <;> exact Sim.pure rfl

def ZerosOk (P : Program) : Prop := ∀ t i v, P.info? t = some i → i.zero = some v → flat 3 v = true

theorem sim_zeroValue (hz : ZerosOk P) (t : TypeId) : Sim P (fun σ a b => VRel σ a b ∧ b = a) ρ (zeroValue t) (zeroValue t) := by
  refine (sim_typeInfo t).bind fun σ _ a b h => ?_
  obtain ⟨rfl, hi⟩ := h
  cases hv : a.zero with
  | none => exact Sim.halt
  | some v => exact Sim.pure ⟨rel_of_flat 3 v (hz t a v hi hv), rfl⟩

theorem sim_loadCellsFrom : ∀ (n i : Nat) {ρ : Emb} {a a' : Addr} {acc acc' : Array Value}, ARel ρ a a' → VsRel ρ acc acc' →
    Sim P VsRel ρ (loadCellsFrom a i n acc) (loadCellsFrom a' i n acc') := by
  intro n
  induction n with
  | zero => intro i ρ a a' acc acc' _ h; exact Sim.pure h
  | succ n ih =>
    intro i ρ a a' acc acc' ha h
    exact (sim_load .plain (ha.add i)).bind fun σ hle v v' hv => ih (i + 1) (ha.mono hle) ((h.mono hle).push hv)
theorem sim_loadCells (n : Nat) {a a' : Addr} (ha : ARel ρ a a') : Sim P VsRel ρ (loadCells a n) (loadCells a' n) := sim_loadCellsFrom n 0 ha .empty

theorem sim_storeCells : ∀ (vs vs' : List Value) (i : Nat) {ρ : Emb} {a a' : Addr}, ARel ρ a a' → vs.length = vs'.length →
    (∀ (j : Nat) (x y : Value), vs[j]? = some x → vs'[j]? = some y → VRel ρ x y) → Sim P (fun _ _ _ => True) ρ (storeCells a vs i) (storeCells a' vs' i) := by
  intro vs
  induction vs with
  | nil =>
    intro vs' i ρ a a' _ hn _
    cases vs' with
    | nil => exact Sim.pure trivial
    | cons y ys => simp at hn
  | cons v vs ih =>
    intro vs' i ρ a a' ha hn h
    cases vs' with
    | nil => simp at hn
    | cons y ys =>
      refine (sim_store .plain (ha.add i) (h 0 v y rfl rfl)).bind fun σ hle _ _ _ => ?_
      exact ih ys (i + 1) (ha.mono hle) (by simpa using hn) fun j x z hx hz => (h (j + 1) x z (by simpa using hx) (by simpa using hz)).mono hle

theorem sim_loadVar (t : TypeId) {a a' : Addr} (ha : ARel ρ a a') : Sim P VRel ρ (loadVar t a) (loadVar t a') := by
  refine (sim_isAgg t).bind fun σ hle b b' hb => ?_
  subst hb
  cases b with
  | false => exact sim_load .plain (ha.mono hle)
  | true =>
    refine (sim_sizeOf t).bind fun σ' hle' n n' hn => ?_
    subst hn
    refine (sim_loadCells n (ha.mono (Emb.le_trans hle hle'))).bind fun σ'' _ xs ys hxs => Sim.pure (.agg hxs.1 hxs.2)

omit [Globs] in
theorem VsRel.list {ρ : Emb} {xs ys : Array Value} (h : VsRel ρ xs ys) : xs.toList.length = ys.toList.length ∧
    ∀ (j : Nat) (x y : Value), xs.toList[j]? = some x → ys.toList[j]? = some y → VRel ρ x y :=
  ⟨by simpa using h.1, fun j x y hx hy => h.2 j x y (by simpa using hx) (by simpa using hy)⟩

theorem sim_storeVar (t : TypeId) {a a' : Addr} (ha : ARel ρ a a') {v v' : Value} (hv : VRel ρ v v') : Sim P (fun _ _ _ => True) ρ (storeVar t a v) (storeVar t a' v') := by
  refine (sim_sizeOf t).bind fun σ hle n n' hn => ?_
  subst hn
  have hc := (hv.mono hle).cells
  rw [← hc.1]
  exact Sim.ite (fun _ => Sim.halt_bind) fun _ => sim_storeCells _ _ 0 (ha.mono hle) hc.list.1 hc.list.2

theorem sim_newRow {c c' : Array Value} (e e' : TypeId) (h : VsRel ρ c c') : Sim P ARel ρ (newRow e c) (newRow e' c') := by
  refine (sim_newCells e e' h).bind fun σ _ r r' hr => ?_
  obtain ⟨L, h1, h2, h3⟩ := hr
  refine Sim.pure ⟨L, h1, rfl, ?_⟩
  simp [h2, h3]

end sims
end Go.Ev
