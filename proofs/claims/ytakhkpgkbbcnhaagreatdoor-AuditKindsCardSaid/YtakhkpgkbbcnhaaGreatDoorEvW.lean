/- The concrete evaluator, part W: a function that lays one row of plain values and hands out its address. -/
import Derived.Test.YtakhkpgkbbcnhaaGreatDoorEvS
namespace Go.Ev
open Go
variable [Globs] [Holes]

def noS : Sums := fun _ _ _ => none
/-- No variable is known. -/
@[reducible] def G0 : Globs := ⟨0⟩
theorem noS_ok (P : Program) : SumsOk P noS := fun _ _ _ _ e => absurd e (by simp [noS])
def isNilL {α : Type} (l : List α) : Bool :=
  match l with
  | [] => true
  | _ => false
noncomputable def tableS (f0 : FuncId) (t : TypeId) (cells : List Value) : SumsR := fun f args h =>
  gB (Nat.beq f f0) (gB (isNilL args) (forceN (h.next + 1) fun n1 => tsetR 48 h.t h.next (some (.cells ⟨cells⟩ t (0, 0))) fun tr => some [.val (.pointer (some ⟨h.next, 0, none⟩)) ⟨n1, tr⟩]))
def chkRow (cells : List Value) (o : Option Obj) : Bool :=
  match o with
  | some (.cells c _ fr) => eqL (eqV 4) c.toList cells && Nat.beq fr.1 0 && Nat.beq fr.2 0
  | _ => false
def chkOut (cells : List Value) (o : Option (List Out)) : Bool :=
  match o with
  | some [.val (.pointer (some ⟨b, 0, none⟩)) h] => chkRow cells (h.get b)
  | _ => false

/-- The start from nothing. -/
def startFacts (w : World) : Facts := ⟨w.tape, w.os, w.output, fun k o => w.heap[k]? = some o, fun _ => False⟩
theorem start_inv0 (hn : Globs.n = 0) (w : World) (hb : ∀ (k : Nat) (o : Obj), Holes.at_ k o → w.heap[k]? = some o) : Inv (startFacts w) (fun _ => none) ⟨0, .leaf⟩ w := by
  have hempty : ∀ b o, (⟨0, .leaf⟩ : Heap).get b ≠ some o := by intro b o; simp [Heap.get, Tree.get]
  exact ⟨rfl, rfl, rfl, hb, fun g hg => by rw [hn] at hg; exact absurd hg (Nat.not_lt_zero g), fun k o h => h, fun b o L h => absurd h (hempty b o), fun b b' o o' L L' h => absurd h (hempty b o), fun b o L k o' h => absurd h (hempty b o), fun b L h => by simp at h, fun b o h => absurd h (hempty b o), fun b h => h.elim⟩

/-- A row of known plain cells, in memory of its own. -/
structure RowAt (cells : List Value) (w : World) (v : Value) (w' : World) (L : Loc) (c' : Array Value) (t' : TypeId) (fr' : Nat × Nat) : Prop where
  val : v = .pointer (some ⟨L.blk, L.off, none⟩)
  heap : w'.heap[L.blk]? = some (.cells c' t' fr')
  loose : L.loose = false
  esz : L.esz = 0
  len : L.len = cells.length
  tot : L.tot = c'.size
  room : L.off + L.len ≤ L.tot
  cell : ∀ (j : Nat) (v v' : Value), cells[j]? = some v → c'[L.off + j]? = some v' → v' = v
  free : fr'.1 = fr'.2 ∨ L.tot ≤ fr'.1
  tape : w'.tape = w.tape
  os : w'.os = w.os
  output : w'.output = w.output
  old : ∀ (k : Nat) (o : Obj), w.heap[k]? = some o → w'.heap[k]? = some o
  fresh : ∀ k, k < w.heap.size → L.blk ≠ k
theorem table_run (hn : Globs.n = 0) {P : Program} (hN : NamesOk P) {n : Nat} {f0 : FuncId} {cells : List Value} (hflat : cells.all (flat 3) = true) (hrun : chkOut cells (ev P noS n (.call f0 #[]) ⟨0, .leaf⟩) = true)
    (w : World) (hb : ∀ (k : Nat) (o : Obj), Holes.at_ k o → w.heap[k]? = some o) : CallsIn Fence.wide 0 P f0 #[] w (retPost fun v w' => ∃ L c' t' fr', RowAt cells w v w' L c' t' fr') := by
  unfold chkOut at hrun
  split at hrun
  rotate_left
  · exact absurd hrun (by simp)
  rename_i b h1 hev
  unfold chkRow at hrun
  split at hrun
  rotate_left
  · exact absurd hrun (by simp)
  rename_i c tt fr hg
  simp only [Bool.and_eq_true] at hrun
  obtain ⟨⟨hc, hf1⟩, hf2⟩ := hrun
  have hc : c.toList = cells := eqL_eq (eqV_eq 4) _ _ hc
  have hfr1 := Nat.eq_of_beq_eq_true hf1
  have hfr2 := Nat.eq_of_beq_eq_true hf2
  refine ev_sound hN (noS_ok P) n (.call f0 #[]) ⟨0, .leaf⟩ _ hev _ _ w (start_inv0 hn w hb) #[] _ .empty ?_
  intro v h2 hm σ v' w' hle i' hv
  obtain ⟨rfl, rfl⟩ := by simpa using hm
  generalize hx : Value.pointer (some (⟨b, 0, none⟩ : Addr)) = x at hv
  cases hv <;> try (simp at hx; done)
  rename_i b2 o2 L hL
  simp only [Value.pointer.injEq, Option.some.injEq, Addr.mk.injEq] at hx
  obtain ⟨rfl, rfl, _⟩ := hx
  obtain ⟨o', ho', hrel⟩ := i'.live b _ L hg hL
  cases o' <;> simp only [ORel] at hrel
  rename_i c' t' fr'
  obtain ⟨r1, r2, r3, r4, r5, r6, r7⟩ := hrel
  refine ⟨L, c', t', fr', rfl, ho', r1.trans (by rw [hfr1]; rfl), r2.trans hfr2, r3.trans (by rw [← hc]; simp), r4, r5, fun j v v' hv hv' => ?_, r7, i'.tape, i'.os, i'.output, fun k o hk => i'.facts k o hk,
    fun k hk => i'.apart b _ L k _ hg hL (Array.getElem?_eq_getElem hk) (by show Nat.beq fr.1 2 = false; rw [hfr1]; rfl)⟩
  have hv2 : c[j]? = some v := by
    rw [← Array.getElem?_toList, hc]
    exact hv
  have hfl : flat 3 v = true := List.all_eq_true.1 hflat v (List.mem_of_getElem? hv)
  exact eq_of_flat 3 _ _ hfl (r6 j v v' hv2 hv')

theorem table_calls {P : Program} (hN : NamesOk P) {n : Nat} {f0 : FuncId} {cells : List Value} (hflat : cells.all (flat 3) = true) (hrun : chkOut cells (@ev G0 P noS n (.call f0 #[]) ⟨0, .leaf⟩) = true)
    {F : Facts} {ρ : Emb} {h h' : Heap} {w : World} (i : Inv F ρ h w) {t : TypeId} (hp : h.push (.cells ⟨cells⟩ t (0, 0)) = some h') {R : Value → World → Prop}
    (hR : AccV F ρ [.val (.pointer (some ⟨h.next, 0, none⟩)) h'] R) : CallsIn Fence.wide 0 P f0 #[] w (retPost R) := by
  refine (@table_run G0 _ rfl P hN n f0 cells hflat hrun w fun k o h => i.facts k o (i.base k o h)).mono fun e w' => ?_
  cases e with
  | panicked _ => exact fun h => h
  | outgrown => exact fun h => h
  | returned v =>
    rintro ⟨L, c', t', fr', rr⟩
    have hsz : w.heap.size ≤ w'.heap.size := by
      rcases Nat.lt_or_ge w'.heap.size w.heap.size with hlt | hge
      · have := rr.old w'.heap.size _ (Array.getElem?_eq_getElem hlt)
        rw [Array.getElem?_eq_none (Nat.le_refl _)] at this
        exact absurd this (by simp)
      · exact hge
    have hle2 := Emb.le_add L i.next_none
    show R v w'
    rw [rr.val]
    have hptr := VRel.ptr (ρ := ρ.add h.next L) (b := h.next) (o := 0) (Emb.add_self _ _ _)
    refine hR _ _ (List.mem_singleton.2 rfl) (ρ.add h.next L) _ w' hle2 ?_ hptr
    refine i.adopt (o' := .cells c' t' fr') hp ?_ rr.tape rr.os rr.output hsz (Array.getElem?_eq_some_iff.1 rr.heap).1 rr.heap ?_ ?_ ?_
    · refine ⟨rr.loose.trans rfl, rr.esz, rr.len.trans (by simp), rr.tot, rr.room, fun j v v' hv hv' => ?_, rr.free⟩
      have hv2 : cells[j]? = some v := by simpa using hv
      have := rr.cell j v v' hv2 hv'
      rw [this]
      exact rel_of_flat 3 _ (List.all_eq_true.1 hflat v (List.mem_of_getElem? hv2))
    · intro k hk hlt
      rw [Array.getElem?_eq_getElem hlt]
      exact rr.old k _ (Array.getElem?_eq_getElem hlt)
    · intro b3 o3 M hb hM
      exact (rr.fresh M.blk (i.dom _ _ hM).2).symm
    · intro k o3 hk
      have := Array.getElem?_eq_some_iff.1 (i.facts k o3 hk)
      exact (rr.fresh k this.1).symm

theorem tableS_ok {P : Program} (hN : NamesOk P) {n : Nat} {f0 : FuncId} {cells : List Value} (t : TypeId) (hflat : cells.all (flat 3) = true) (hrun : chkOut cells (@ev G0 P noS n (.call f0 #[]) ⟨0, .leaf⟩) = true) :
    SumsOk P (plainS (tableS f0 t cells)) := by
  intro f args h outs e F ρ w args' R i hargs hR
  unfold plainS at e
  split at e
  rotate_left
  · exact absurd e (by simp)
  rename_i os hs
  obtain rfl := Option.some.inj e
  obtain ⟨h1, hs1⟩ := gB_some hs
  obtain ⟨h2, hs2⟩ := gB_some hs1
  clear hs hs1
  obtain rfl := Nat.eq_of_beq_eq_true h1
  rw [forceN_eq, tsetR_eq] at hs2
  obtain ⟨tr, htr, hs3⟩ := oB_some hs2
  obtain rfl := Option.some.inj hs3
  have ha : args' = #[] := by
    have : args.toList = [] := by
      cases hl : args.toList with
      | nil => rfl
      | cons x l => rw [hl] at h2; exact absurd h2 (by simp [isNilL])
    have hsz : args'.size = 0 := by rw [← hargs.1, ← Array.length_toList, this]; rfl
    exact Array.eq_empty_of_size_eq_zero hsz
  subst ha
  refine table_calls hN hflat hrun i (t := t) (h' := ⟨h.next + 1, tr⟩) ?_ hR
  unfold Heap.push
  rw [htr]
  rfl
end Go.Ev
