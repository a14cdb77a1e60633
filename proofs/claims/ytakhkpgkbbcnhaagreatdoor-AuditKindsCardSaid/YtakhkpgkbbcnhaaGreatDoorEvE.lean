/- The concrete evaluator, part E: append, slicing, bytes and strings. -/
import Derived.Test.YtakhkpgkbbcnhaaGreatDoorEvD
import Derived.Deep.AppendSrc
import Derived.Lib.AppendZerosOnto
import Derived.Lib.ConvBytes
import Derived.Laws.Slices
import Derived.Laws.BytesString
namespace Go.Ev
open Go
variable [Globs] [Holes]

def SimF {α β : Type} (P : Program) (R : Emb → α → β → Prop) (ρ : Emb) (f : Heap → Option (α × Heap)) (s' : Sem β) : Prop :=
  ∀ F h w a h₁, Inv F ρ h w → f h = some (a, h₁) → ∃ σ b w₁, s'.run P w = .ok b w₁ ∧ ρ.le σ ∧ Inv F σ h₁ w₁ ∧ R σ a b

/-- A new block's name for a place in the world that nobody holds. -/
theorem Inv.adopt {F : Facts} {ρ : Emb} {h h' : Heap} {w w' : World} (i : Inv F ρ h w) {o o' : Obj} {L : Loc} (e : h.push o = some h')
    (ho : ORel (ρ.add h.next L) L o o') (ht : w'.tape = w.tape) (hos : w'.os = w.os) (hout : w'.output = w.output) (hsz : w.heap.size ≤ w'.heap.size) (hlt : L.blk < w'.heap.size)
    (hnew : w'.heap[L.blk]? = some o') (hsame : ∀ k, k ≠ L.blk → k < w.heap.size → w'.heap[k]? = w.heap[k]?)
    (hfree : ∀ b o₁ M, h.get b = some o₁ → ρ b = some M → M.blk ≠ L.blk) (hfact : ∀ k o₁, F.at_ k o₁ → k ≠ L.blk) : Inv F (ρ.add h.next L) h' w' := by
  obtain ⟨hn, hg⟩ := Heap.get_push e
  have hle : ρ.le (ρ.add h.next L) := Emb.le_add L i.next_none
  refine ⟨ht.trans i.tape, hos.trans i.os, hout.trans i.output, i.base, i.glob.mono hle, ?_, ?_, ?_, ?_, ?_, ?_, fun b hb => ?_⟩
  rotate_right
  · obtain ⟨h1, h2⟩ := i.unb b hb
    exact ⟨by rw [Emb.add_other _ _ (Nat.ne_of_lt h2)]; exact h1, by rw [hn]; omega⟩
  · intro k o₁ hk
    have := i.facts k o₁ hk
    rw [hsame k (hfact k o₁ hk) (Array.getElem?_eq_some_iff.1 this).1]
    exact this
  · intro b o₁ M hb hM
    rw [hg] at hb
    split at hb
    · rename_i hbn
      simp only [Option.some.injEq] at hb
      subst hb; subst hbn
      rw [Emb.add_self] at hM
      cases hM
      exact ⟨o', hnew, ho⟩
    · rename_i hbn
      rw [Emb.add_other _ _ hbn] at hM
      obtain ⟨o₂, ho₂, hr⟩ := i.live b o₁ M hb hM
      refine ⟨o₂, ?_, hr.mono hle⟩
      rw [hsame _ (hfree b o₁ M hb hM) (i.dom _ _ hM).2]
      exact ho₂
  · intro b b' o₁ o₂ M M' hb hb' hM hM' hMM
    rw [hg] at hb hb'
    split at hb
    · rename_i hbn
      split at hb'
      · rename_i hbn'; rw [hbn, hbn']
      · rename_i hbn'
        subst hbn
        rw [Emb.add_self] at hM
        rw [Emb.add_other _ _ hbn'] at hM'
        cases hM
        exact absurd hMM.symm (hfree _ _ _ hb' hM')
    · rename_i hbn
      split at hb'
      · rename_i hbn'
        subst hbn'
        rw [Emb.add_self] at hM'
        rw [Emb.add_other _ _ hbn] at hM
        cases hM'
        exact absurd hMM (hfree _ _ _ hb hM)
      · rename_i hbn'
        rw [Emb.add_other _ _ hbn] at hM
        rw [Emb.add_other _ _ hbn'] at hM'
        exact i.inj b b' o₁ o₂ M M' hb hb' hM hM' hMM
  · intro b o₁ M k o₂ hb hM hk hro
    rw [hg] at hb
    split at hb
    · rename_i hbn
      subst hbn
      rw [Emb.add_self] at hM
      cases hM
      exact (hfact k o₂ hk).symm
    · rename_i hbn
      rw [Emb.add_other _ _ hbn] at hM
      exact i.apart b o₁ M k o₂ hb hM hk hro
  · intro b M hb
    by_cases hbn : b = h.next
    · subst hbn
      rw [Emb.add_self] at hb
      cases hb
      exact ⟨by rw [hn]; omega, hlt⟩
    · rw [Emb.add_other _ _ hbn] at hb
      have := i.dom _ _ hb
      exact ⟨by rw [hn]; omega, by omega⟩
  · intro b o₁ hb
    rw [hg] at hb
    split at hb
    · rename_i hbn; rw [hn, hbn]; omega
    · have := i.named _ _ hb; rw [hn]; omega

/-- A block that is used no more. -/
theorem Inv.kill {F : Facts} {ρ : Emb} {h h' : Heap} {w : World} (i : Inv F ρ h w) {b : Nat} (e : h.set b none = some h') :
    Inv F ρ h' w ∧ h'.next = h.next ∧ h'.get b = none ∧ ∀ c o, h'.get c = some o → h.get c = some o := by
  obtain ⟨hn, hg⟩ := Heap.get_set e
  have back : ∀ c o, h'.get c = some o → h.get c = some o := fun c o hc => by
    rw [hg] at hc
    split at hc
    · exact absurd hc (by simp)
    · exact hc
  refine ⟨⟨i.tape, i.os, i.output, i.base, i.glob, i.facts, fun c o L hc hL => i.live c o L (back c o hc) hL, fun c c' o o' L L' hc hc' => i.inj c c' o o' L L' (back _ _ hc) (back _ _ hc'),
    fun c o L k o' hc => i.apart c o L k o' (back _ _ hc), fun c L hc => by rw [hn]; exact i.dom c L hc, fun c o hc => by rw [hn]; exact i.named c o (back c o hc), fun c hc => by rw [hn]; exact i.unb c hc⟩, hn, by rw [hg]; simp, back⟩

/-- So many cells from an address on. -/
def Heap.cells (h : Heap) (a : Addr) (n : Nat) : Option (Array Value) :=
  match h.get a.block with
  | some (.cells c _ _) => if a.spot.isNone && decide (a.off + n ≤ c.size) then some (c.extract a.off (a.off + n)) else none
  | _ => none

theorem Inv.cells {F : Facts} {ρ : Emb} {h : Heap} {w : World} (i : Inv F ρ h w) {a a' : Addr} (ha : ARel ρ a a') {n : Nat} {cs : Array Value} (hc : h.cells a n = some cs) :
    ∃ cs', VsRel ρ cs cs' ∧ cs.size = n ∧ ∀ (j : Nat) (u : Value), cs'[j]? = some u → w.cell? (a'.add j) = some u := by
  unfold Heap.cells at hc
  split at hc
  · rename_i c e fr hg
    split at hc
    · rename_i hb
      simp only [Bool.and_eq_true, decide_eq_true_eq] at hb
      simp only [Option.some.injEq] at hc
      subst hc
      have get : ∀ j, j < n → h.cell (a.add j) = some (c.getD (a.off + j) undef) := by
        intro j hj
        obtain ⟨L, h1, h2, h3⟩ := ha.add j
        have hblk : (a.add j).block = a.block := by unfold Addr.add; split <;> rfl
        have hoff : (a.add j).off = a.off + j := by
          unfold Addr.add; split
          · rename_i h0; simp [h0]
          · rfl
        unfold Heap.cell
        rw [hblk, hg, h2, hoff]
        have : a.off + j < c.size := by omega
        simp [this]
      refine ⟨((List.range n).map fun j => (w.cell? (a'.add j)).getD undef).toArray, ⟨by simp; omega, ?_⟩, by simp; omega, ?_⟩
      · intro j x y hx hy
        have hj : j < n := by
          have := (Array.getElem?_eq_some_iff.1 hy).1
          simpa using this
        obtain ⟨v', hv', hr, _⟩ := i.cell (ha.add j) (get j hj)
        simp [hj, hv'] at hy
        subst hy
        rw [Array.getElem?_extract] at hx
        split at hx
        · rename_i hlt
          have hlt' : a.off + j < c.size := by omega
          have : c.getD (a.off + j) undef = x := by
            rw [Array.getD_eq_getD_getElem?, hx]; rfl
          rw [this] at hr
          exact hr
        · exact absurd hx (by simp)
      · intro j u hu
        have hj : j < n := by
          have := (Array.getElem?_eq_some_iff.1 hu).1
          simpa using this
        obtain ⟨v', hv', _, _⟩ := i.cell (ha.add j) (get j hj)
        simp [hj, hv'] at hu
        subst hu
        exact hv'
    · exact absurd hc (by simp)
  · exact absurd hc (by simp)

def Heap.setCells (h : Heap) (b : Nat) : Nat → List Value → Option Heap
  | _, [] => some h
  | o, v :: r => match h.setCell ⟨b, o, none⟩ v with
    | some h' => h'.setCells b (o + 1) r
    | none => none

theorem Inv.setCells {F : Facts} {ρ : Emb} : ∀ (vs vs' : List Value) {h h' : Heap} {w : World} {b o : Nat} {L : Loc}, Inv F ρ h w → ρ b = some L → vs.length = vs'.length →
    (∀ (j : Nat) (x y : Value), vs[j]? = some x → vs'[j]? = some y → VRel ρ x y) → h.setCells b o vs = some h' →
    Inv F ρ h' (w.setCells L.blk (L.off + o) vs') ∧
      (∀ j, j < vs'.length → (w.cell? ⟨L.blk, L.off + o + j, none⟩).isSome = true ∧ w.frozen? ⟨L.blk, L.off + o + j, none⟩ = false) := by
  intro vs
  induction vs with
  | nil =>
    intro vs' h h' w b o L i hL hn hr e
    cases vs' with
    | cons y ys => simp at hn
    | nil =>
      simp only [Heap.setCells, Option.some.injEq] at e
      subst e
      exact ⟨i, fun j hj => by simp at hj⟩
  | cons v vs ih =>
    intro vs' h h' w b o L i hL hn hr e
    cases vs' with
    | nil => simp at hn
    | cons y ys =>
      simp only [Heap.setCells] at e
      split at e
      · rename_i h1 e1
        obtain ⟨⟨x, hx⟩, hf, i1⟩ := i.setCell (a := ⟨b, o, none⟩) (a' := ⟨L.blk, L.off + o, none⟩) ⟨L, hL, rfl, rfl⟩ (hr 0 v y rfl rfl) e1
        obtain ⟨i2, h2⟩ := ih ys i1 hL (by simpa using hn) (fun j x z hx hz => hr (j + 1) x z (by simpa using hx) (by simpa using hz)) e
        refine ⟨by simpa [World.setCells, Nat.add_assoc] using i2, fun j hj => ?_⟩
        cases j with
        | zero => exact ⟨by simp [hx], hf⟩
        | succ j =>
          have := h2 j (by simpa using hj)
          rw [show L.off + (o + 1) + j = L.off + o + (j + 1) by omega] at this
          refine ⟨?_, by simpa [World.frozen?_setCell] using this.2⟩
          have h3 := this.1
          have h5 : (w.setCell ⟨L.blk, L.off + o, none⟩ y).cell? ⟨L.blk, L.off + o + (j + 1), none⟩ = w.cell? ⟨L.blk, L.off + o + (j + 1), none⟩ :=
            World.cell?_setCell_other _ _ _ _ (fun hc => absurd (congrArg Addr.off hc) (by show ¬ (L.off + o = L.off + o + (j + 1)); omega))
          rw [h5] at h3
          exact h3
      · exact absurd e (by simp)

/-! ### append -/
def lenUpTo : Nat := 16777216
def isLoose (L : Nat × Nat) (o cap size : Nat) : Bool := Nat.beq L.1 1 && decide (o + cap * L.2 = size)

/-- The elements that are appended: how many, and their cells. -/
def asrc (P : Program) (size : Nat) (tx : TypeId) (x : Value) (h : Heap) : Option (Nat × Array Value) :=
  match P.underlying tx, x with
  | some (.slice _), .slice (some b) n _ => match h.cells b (n * size) with
    | some cs => some (n, cs)
    | none => none
  | some (.slice _), .slice none 0 _ => some (0, #[])
  | some .string, .string s => if size = 1 then some (s.size, (byteCells s).toArray) else none
  | _, _ => none

def aolds (size len : Nat) (base : Option Addr) (h : Heap) : Option (Array Value) :=
  match base with
  | some a => h.cells a (len * size)
  | none => if len = 0 then some #[] else none

/-- The block of a slice that is let go, if its room is not known. -/
def letGo (base : Option Addr) (cap size : Nat) (h : Heap) : Option Heap :=
  match base with
  | none => some h
  | some a => match h.get a.block with
    | some (.cells c _ fr) => if isLoose fr a.off cap c.size then (if fr.2 = size then h.set a.block none else none) else some h
    | _ => none

def anew (e size len cap n : Nat) (base : Option Addr) (olds news : Array Value) (h : Heap) : Option (Value × Heap) :=
  match letGo base cap size h with
  | none => none
  | some h0 => match h0.push (.cells (olds ++ news) e (1, size)) with
    | none => none
    | some h' => some (.slice (some ⟨h.next, 0, none⟩) (len + n) (len + n), h')

def aappend (P : Program) (t tx : TypeId) (s x : Value) (h : Heap) : Option (Value × Heap) :=
  match P.underlying t with
  | some (.slice e) => match P.info? e with
    | some i => match i.zero, s with
      | some z, .slice base len cap => match asrc P i.size tx x h with
        | none => none
        | some (n, news) =>
          if len + n ≤ cap then
            match base with
            | none => if news.toList.all one then some (.slice none (len + n) cap, h) else none
            | some a => if a.spot.isNone && news.toList.all one then
                match h.setCells a.block (a.off + len * i.size) news.toList with
                | some h' => some (.slice (some a) (len + n) cap, h')
                | none => none
              else none
          else if len + n ≤ lenUpTo && decide (i.bytes ≤ 65536) && flat 3 z && news.toList.all one && Nat.beq z.cells.size i.size then
            match aolds i.size len base h with
            | none => none
            | some olds => anew e i.size len cap n base olds news h
          else none
      | _, _ => none
    | none => none
  | _ => none

omit [Globs] in
theorem one_rel {ρ : Emb} {v v' : Value} (h : VRel ρ v v') : one v' = one v := by
  cases h with
  | hole k h _ => cases v' <;> first | rfl | exact absurd h Bool.false_ne_true
  | _ => rfl
omit [Globs] in
omit [Holes] in
theorem one_cell {v : Value} (h : one v = true) : v.oneCell' = true := by cases v <;> first | rfl | simp [one] at h

omit [Globs] in
omit [Holes] in
theorem nextslicecap_le {need c : Nat} (h : c < need) : Builtin.nextslicecap need c ≤ 3 * need + 2000 := by
  unfold Builtin.nextslicecap
  split
  · omega
  · split
    · omega
    · simp only [Builtin.growBy]
      repeat' split
      all_goals omega

omit [Globs] in
omit [Holes] in
theorem SRel.off_of_pos {L : Loc} {o len cap o' cap' : Nat} (h : SRel L o len cap o' cap') (hp : 0 < len ∨ 0 < cap') : o' = L.off + o := by
  rcases h with ⟨_, h⟩ | ⟨_, _, _, _, h | h⟩
  · exact h
  · exact h
  · omega

section
variable {P : Program} {ρ : Emb} {F : Facts} {h : Heap} {w : World}

omit [Globs] in
theorem VsRel.one {xs ys : Array Value} (hr : VsRel ρ xs ys) (h1 : xs.toList.all Ev.one = true) : ∀ u ∈ ys.toList, u.oneCell' = true := by
  intro u hu
  obtain ⟨j, hj⟩ := List.mem_iff_getElem?.1 hu
  have hlt : j < xs.size := by rw [hr.1]; have := (List.getElem?_eq_some_iff.1 hj).1; simpa using this
  have := hr.2 j xs[j] u (Array.getElem?_eq_getElem hlt) (by simpa using hj)
  refine one_cell ?_
  rw [one_rel this]
  rw [List.all_eq_true] at h1
  exact h1 _ (by simp)

theorem asrc_src (i : Inv F ρ h w) {size : Nat} {tx : TypeId} {x x' : Value} {n : Nat} {news : Array Value} (hx : VRel ρ x x') (e : asrc P size tx x h = some (n, news)) (h1 : news.toList.all Ev.one = true) :
    ∃ news' : Array Value, VsRel ρ news news' ∧ Src P size tx x' n news'.toList w ∧ news.size = n * size := by
  unfold asrc at e
  split at e
  · rename_i b n' c hu
    split at e
    · rename_i cs hcs
      simp only [Option.some.injEq, Prod.mk.injEq] at e
      obtain ⟨rfl, rfl⟩ := e
      cases hx with
      | @slice b₀ o len cap o' cap' L hL hs =>
        by_cases h0 : n' * size = 0
        · obtain ⟨cs', hr, hsz, _⟩ := i.cells (a' := ⟨L.blk, L.off + o, none⟩) ⟨L, hL, rfl, rfl⟩ hcs
          refine ⟨cs', hr, ?_, hsz⟩
          have hz : cs'.toList = [] := by
            have : cs'.size = 0 := by rw [← hr.1, hsz, h0]
            exact List.length_eq_zero_iff.1 (by simpa using this)
          refine Src.ofSlice w hu _ _ _ _ (by rw [hz, h0]; rfl) (fun j u hj => by rw [hz] at hj; simp at hj) (hr.one h1)
        · have : o' = L.off + o := hs.off_of_pos (.inl (by
            cases n' with
            | zero => simp at h0
            | succ k => omega))
          subst this
          obtain ⟨cs', hr, hsz, hg⟩ := i.cells (a' := ⟨L.blk, L.off + o, none⟩) ⟨L, hL, rfl, rfl⟩ hcs
          refine ⟨cs', hr, ?_, hsz⟩
          refine Src.ofSlice w hu _ _ _ _ (by rw [← hsz, hr.1]; simp) (fun j u hj => hg j u (by simpa using hj)) (hr.one h1)
    · exact absurd e (by simp)
  · rename_i c hu
    simp only [Option.some.injEq, Prod.mk.injEq] at e
    obtain ⟨rfl, rfl⟩ := e
    cases hx
    exact ⟨#[], .empty, Src.ofNil w hu _, by simp⟩
  · rename_i s hu
    split at e
    · rename_i hs1
      subst hs1
      simp only [Option.some.injEq, Prod.mk.injEq] at e
      obtain ⟨rfl, rfl⟩ := e
      cases hx
      refine ⟨(byteCells s).toArray, ⟨rfl, fun j x y hx hy => ?_⟩, Src.ofString w hu s, by simp [byteCells_length]⟩
      rw [hx] at hy
      cases hy
      have hm : x ∈ byteCells s := by
        have := List.mem_of_getElem? (by simpa using hx : (byteCells s)[j]? = some x)
        exact this
      unfold byteCells at hm
      obtain ⟨b, _, rfl⟩ := List.mem_map.1 hm
      exact .int _ _
    · exact absurd e (by simp)
  · exact absurd e (by simp)

theorem aolds_run (i : Inv F ρ h w) {size len cap : Nat} {base : Option Addr} {s' : Value} {olds : Array Value} (hx : VRel ρ (.slice base len cap) s') (e : aolds size len base h = some olds) :
    ∃ (base' : Option Addr) (cap' : Nat) (olds' : Array Value), s' = .slice base' len cap' ∧ VsRel ρ olds olds' ∧ olds.size = len * size ∧
      (Builtin.firstCells size len (.slice base' len cap')).run P w.drew = .ok olds'.toList.toArray w.drew := by
  unfold aolds at e
  split at e
  · cases hx with
    | @slice b₀ o _ _ o' cap' L hL hs =>
      by_cases h0 : len * size = 0
      · obtain ⟨cs', hr, hsz, _⟩ := i.cells (a' := ⟨L.blk, L.off + o, none⟩) ⟨L, hL, rfl, rfl⟩ e
        refine ⟨_, cap', cs', rfl, hr, hsz, ?_⟩
        have hz : cs'.toList = [] := by
          have : cs'.size = 0 := by rw [← hr.1, hsz, h0]
          exact List.length_eq_zero_iff.1 (by simpa using this)
        rw [hz]
        exact run_firstCells_some w.drew size len _ len cap' [] (by rw [h0]; rfl) (fun j u hj => by simp at hj)
      · have : o' = L.off + o := hs.off_of_pos (.inl (by
          cases len with
          | zero => simp at h0
          | succ k => omega))
        subst this
        obtain ⟨cs', hr, hsz, hg⟩ := i.cells (a' := ⟨L.blk, L.off + o, none⟩) ⟨L, hL, rfl, rfl⟩ e
        refine ⟨_, cap', cs', rfl, hr, hsz, ?_⟩
        exact run_firstCells_some w.drew size len _ len cap' cs'.toList (by rw [← hsz, hr.1]; simp) (fun j u hj => by simpa using hg j u (by simpa using hj))
  · split at e
    · rename_i h0
      subst h0
      simp only [Option.some.injEq] at e
      subst e
      cases hx
      exact ⟨none, cap, #[], rfl, .empty, by simp, run_firstCells_none w.drew size 0 0 cap⟩
    · exact absurd e (by simp)

theorem letGo_inv (i : Inv F ρ h w) {base : Option Addr} {cap size : Nat} {h0 : Heap} (e : letGo base cap size h = some h0) : Inv F ρ h0 w ∧ h0.next = h.next := by
  unfold letGo at e
  split at e
  · simp only [Option.some.injEq] at e; subst e; exact ⟨i, rfl⟩
  · split at e
    · split at e
      · split at e
        · have := i.kill e; exact ⟨this.1, this.2.1⟩
        · exact absurd e (by simp)
      · simp only [Option.some.injEq] at e; subst e; exact ⟨i, rfl⟩
    · exact absurd e (by simp)

omit [Globs] in
omit [Holes] in
theorem zeroCells_flat {z : Value} (hz : flat 3 z = true) (n : Nat) : ∀ u ∈ (Builtin.zeroCells z.cells n).toList, True := fun _ _ => trivial

/-- The new row, where the world lays one. -/
theorem anew_grown (i : Inv F ρ h w) {e size len cap n : Nat} {base : Option Addr} {olds news olds' news' : Array Value} {r : Value} {h₁ : Heap} (ho : VsRel ρ olds olds') (hn : VsRel ρ news news')
    (hos : olds.size = len * size) (hns : news.size = n * size) (ea : anew e size len cap n base olds news h = some (r, h₁)) (g : Nat) (hg : len + n ≤ g) (zs : Array Value) (hzs : zs.size = (g - (len + n)) * size) :
    ∃ σ, ρ.le σ ∧ Inv F σ h₁ (w.drew.alloc (.cells ((olds'.toList ++ news'.toList).toArray ++ zs) e)) ∧ VRel σ r (.slice (some ⟨w.heap.size, 0, none⟩) (len + n) g) := by
  unfold anew at ea
  split at ea
  · exact absurd ea (by simp)
  · rename_i h0 e0
    obtain ⟨i0, hnx⟩ := letGo_inv i e0
    split at ea
    · exact absurd ea (by simp)
    · rename_i h' e1
      simp only [Option.some.injEq, Prod.mk.injEq] at ea
      obtain ⟨rfl, rfl⟩ := ea
      obtain ⟨L, hL⟩ : ∃ L : Loc, L = ⟨w.heap.size, 0, (len + n) * size + zs.size, (len + n) * size, size, true⟩ := ⟨_, rfl⟩
      have hle := Emb.le_add L i0.next_none
      have hsz : (olds'.toList ++ news'.toList).toArray.size = (len + n) * size := by
        simp [← ho.1, ← hn.1, hos, hns, Nat.add_mul]
      have hrel : VsRel ρ (olds ++ news) (olds'.toList ++ news'.toList).toArray := by
        have := ho.append hn
        have e : (olds'.toList ++ news'.toList).toArray = olds' ++ news' := by
          apply Array.ext'; simp
        rw [e]; exact this
      refine ⟨ρ.add h0.next L, hle, ?_, ?_⟩
      · have := (i0.drawn (w.drawn + 1)).push (o' := .cells ((olds'.toList ++ news'.toList).toArray ++ zs) e (0, 0)) e1 (L := L) (by rw [hL]) ?_
        · exact this
        · subst hL
          refine ⟨rfl, rfl, by simp [hos, hns, Nat.add_mul], by rw [Array.size_append, hsz], by simp, fun j v v' hv hv' => ?_, .inl rfl⟩
          simp only [Nat.zero_add] at hv'
          have hlt : j < (olds'.toList ++ news'.toList).toArray.size := by rw [← hrel.1]; exact (Array.getElem?_eq_some_iff.1 hv).1
          rw [Array.getElem?_append_left hlt] at hv'
          exact (hrel.2 j v v' hv hv').mono hle
      · rw [hnx] at hle ⊢
        have h1 : (ρ.add h.next L) h.next = some L := Emb.add_self _ _ _
        have := VRel.slice (ρ := ρ.add h.next L) (b := h.next) (o := 0) (len := len + n) (cap := len + n) (o' := 0) (cap' := g) (L := L) h1 (.inr ?_)
        · rw [hL] at this ⊢; exact this
        · subst hL
          refine ⟨rfl, by simp, hg, ?_, .inl rfl⟩
          simp only [Nat.zero_add]
          rw [hzs, ← Nat.add_mul]
          exact Nat.mul_le_mul_right _ (by omega)

end
end Go.Ev
