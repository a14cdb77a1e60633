/- The concrete evaluator, part L: heavy operations. -/
import Derived.Test.YtakhkpgkbbcnhaaGreatDoorEvK
namespace Go.Ev
open Go
variable [Globs] [Holes]

section
variable {P : Program} {ρ : Emb}

theorem sim_makeSlice (t : TypeId) (hz : elemFlat P t = true) {x x' y y' : Value} (hx : VRel ρ x x') (hy : VRel ρ y y') : Sim P VRel ρ (Instr.makeSlice t x y) (Instr.makeSlice t x' y') := by
  refine (sim_underlying t).bind fun τ hle d d' hd => ?_
  obtain ⟨rfl, hd⟩ := hd
  unfold elemFlat at hz
  rw [hd] at hz
  cases d <;> first | exact Sim.halt | skip
  rename_i e
  simp only at hz
  refine (sim_asInt (hx.mono hle)).bind fun τ₁ hle₁ n n' hn => ?_
  subst hn
  refine (sim_asInt ((hy.mono hle).mono hle₁)).bind fun τ₂ hle₂ c c' hc => ?_
  subst hc
  refine (sim_typeInfo e).bind fun τ₃ hle₃ i i' hi => ?_
  obtain ⟨rfl, hi⟩ := hi
  dsimp only
  split
  · refine Sim.none fun hp => ?_
    split
    · exact arun_bind_none' (arun_runtimePanic _) _
    · split
      · exact arun_bind_none' (arun_runtimePanic _) _
      · exact arun_bind_none fun _ _ => arun_bind_none' (arun_runtimePanic _) _
  · refine (sim_askRoom _).bind fun τ₄ hle₄ _ _ _ => ?_
    refine (sim_sizeOf e).bind fun τ₅ hle₅ m m' hm => ?_
    subst hm
    have hcont : ∀ (σ : Emb) (z : Array Value), VsRel σ z z → Sim P VRel σ
        (do let a ← newRow e ((Array.range ((IntKind.i64.wrap c).toNat * m)).map (z[· % z.size]!)); pure (.slice (some a) (IntKind.i64.wrap n).toNat (IntKind.i64.wrap c).toNat))
        (do let a ← newRow e ((Array.range ((IntKind.i64.wrap c).toNat * m)).map (z[· % z.size]!)); pure (.slice (some a) (IntKind.i64.wrap n).toNat (IntKind.i64.wrap c).toNat)) := by
      intro σ z hzz
      refine (sim_newRow e e (rel_range hzz _ rel_default)).bind fun σ' _ a a' haa => Sim.pure ?_
      obtain ⟨L, h1, h2, rfl⟩ := haa
      obtain ⟨b, o, s⟩ := a
      simp only at h1 h2
      subst h2
      exact .slice h1 (.inl ⟨rfl, rfl⟩)
    by_cases h0 : (IntKind.i64.wrap c).toNat * m = 0
    · simp only [h0, if_true]
      refine Sim.bind (R := fun σ a b => VsRel σ a b ∧ b = a) (Sim.pure ⟨.empty, rfl⟩) fun σ hle'' z z' hzz => ?_
      obtain ⟨hzz, rfl⟩ := hzz
      have := hcont σ z' hzz
      rw [h0] at this
      exact this
    · simp only [h0, if_false]
      refine (sim_zero hz).bind fun σ₀ hle₀ v v' hvv => ?_
      obtain ⟨hvv, rfl⟩ := hvv
      refine Sim.bind (R := fun σ a b => VsRel σ a b ∧ b = a) (Sim.pure ⟨hvv.cells, rfl⟩) fun σ hle'' z z' hzz => ?_
      obtain ⟨hzz, rfl⟩ := hzz
      exact hcont σ z' hzz

/-! ### append of a made slice: gc hands the number -/
def aappendZ (P : Program) (t : TypeId) (s x : Value) (h : Heap) : Option (Value × Heap) :=
  match P.underlying t with
  | some (.slice e) => match P.info? e with
    | some i => match i.zero, s, x with
      | some z, .slice none 0 cap, .int _ (.ofNat k) =>
        if 0 < k ∧ cap < k ∧ k ≤ lenUpTo ∧ i.bytes ≤ 65536 ∧ flat 3 z = true ∧ z.cells.size = i.size ∧ 0 < i.size then anew e i.size 0 cap k none #[] (Builtin.zeroCells z.cells k) h else none
      | _, _, _ => none
    | none => none
  | _ => none

theorem aappendZ_sound {t tx ty : TypeId} {kx : IntKind} (hux : P.underlying tx = some (.int kx)) {s x s' x' : Value} (hs : VRel ρ s s') (hx : VRel ρ x x') :
    SimF P VRel ρ (aappendZ P t s x) (Builtin.append_ #[t, tx] ty #[s', x']) := by
  intro F h w r h₁ i ha
  unfold aappendZ at ha
  split at ha
  rotate_left
  · exact absurd ha (by simp)
  rename_i e hu
  split at ha
  rotate_left
  · exact absurd ha (by simp)
  rename_i inf hinf
  split at ha
  rotate_left
  · exact absurd ha (by simp)
  rename_i z cap kq k hz
  split at ha
  rotate_left
  · exact absurd ha (by simp)
  rename_i hc
  obtain ⟨h0, hg, hlen, hb, hzf, hzs, hsz⟩ := hc
  cases hs
  cases hx
  unfold lenUpTo at hlen
  have hrun := Lib.run_append_grow_zeros (P := P) w t tx ty e inf z kq kx hu hux hinf hz none 0 cap [] (run_firstCells_none w.drew inf.size 0 0 cap) k h0 hsz (by omega) (by omega) (by
      have : k * inf.bytes ≤ 16777216 * 65536 := Nat.mul_le_mul hlen hb
      exact Nat.le_trans this (by decide)) (by
      have h1 := nextslicecap_le (need := 0 + k) (c := cap) (by omega)
      have h2 : Builtin.nextslicecap (0 + k) cap * inf.bytes ≤ (3 * (0 + k) + 2000) * 65536 := Nat.mul_le_mul h1 hb
      exact bound_aux (0 + k) _ (by omega) h2)
  have hzc : VsRel ρ (Builtin.zeroCells z.cells k) (Builtin.zeroCells z.cells k) := by
    unfold Builtin.zeroCells
    exact rel_range (rel_of_flat 3 z hzf).cells _ rel_default
  obtain ⟨σ, hle, hi', hv⟩ := anew_grown i (olds' := #[]) .empty hzc (by simp) (by simp [Builtin.zeroCells, hzs]) ha (grownCap w (0 + k) cap e) (grownCap_ge w _ _ _) (Builtin.zeroCells z.cells (grownCap w (0 + k) cap e - (0 + k)))
    (by simp [Builtin.zeroCells, hzs])
  refine ⟨σ, _, _, hrun, hle, ?_, hv⟩
  simpa using hi'

/-! ### the next round of a range -/
def anext (h : Heap) (v : Value) (isString : Bool) : Option (List (Value × Heap)) :=
  match v with
  | .pointer (some ⟨r, 0, none⟩) => match h.get r, isString with
    | some (.stringIter s pos), true =>
      if pos < s.size then
        match h.set r (some (.stringIter s (pos + (Utf8.decode s pos).2))) with
        | some h' => some [(.tuple #[.bool true, goInt pos, .int .i32 (Utf8.decode s pos).1], h')]
        | none => none
      else some [(.tuple #[.bool false], h)]
    | some (.mapIter none _ _ _), false => some [(.tuple #[.bool false], h)]
    | some (.mapIter (some m) since seen last), false => match h.get m with
      | some (.map es clock) =>
        if !seen.isEmpty && !es.isEmpty && es.all (·.born ≥ last) then none else
        let left := es.filter fun e : MapEntry => !seen.contains e.born
        let old := left.filter (·.born < since)
        let new := left.filter (·.born ≥ since)
        let candidates := (if old.isEmpty then #[none] else #[]) ++ (old ++ new).map some
        candidates.toList.mapM fun c => match c with
          | some e => match h.set r (some (.mapIter (some m) since (seen.push e.born) clock)) with
            | some h' => some (.tuple #[.bool true, e.key, e.val], h')
            | none => none
          | none => some (.tuple #[.bool false], h)
      | _ => none
    | _, _ => none
  | _ => none

omit [Globs] in
theorem filter_rel {ρ : Emb} {p : MapEntry → Bool} (hp : ∀ e e', ERel ρ e e' → p e = p e') {es es' : Array MapEntry} (h : All2 (ERel ρ) es.toList es'.toList) :
    All2 (ERel ρ) (es.filter p).toList (es'.filter p).toList := by
  rw [Array.toList_filter, Array.toList_filter]
  generalize es.toList = l at h
  generalize es'.toList = l' at h
  induction h with
  | nil => exact .nil
  | @cons a b as bs hab _ ih =>
    rw [List.filter_cons, List.filter_cons, hp a b hab]
    split
    · exact .cons hab ih
    · exact ih

omit [Globs] in
omit [Holes] in
theorem All2.append {α β : Type} {R : α → β → Prop} {a c : List α} {b d : List β} (h : All2 R a b) (h' : All2 R c d) : All2 R (a ++ c) (b ++ d) := by
  induction h with
  | nil => exact h'
  | cons h _ ih => exact .cons h ih
omit [Globs] in
omit [Holes] in
theorem All2.length {α β : Type} {R : α → β → Prop} {a : List α} {b : List β} (h : All2 R a b) : a.length = b.length := by
  induction h with
  | nil => rfl
  | cons _ _ ih => simp [ih]
omit [Globs] in
omit [Holes] in
theorem All2.getElem {α β : Type} {R : α → β → Prop} {a : List α} {b : List β} (h : All2 R a b) : ∀ (i : Nat) (x : α), a[i]? = some x → ∃ y, b[i]? = some y ∧ R x y := by
  induction h with
  | nil => intro i x hx; simp at hx
  | cons h _ ih =>
    intro i x hx
    cases i with
    | zero => simp at hx; subst hx; exact ⟨_, rfl, h⟩
    | succ i => exact ih i x (by simpa using hx)
omit [Globs] in
omit [Holes] in
theorem All2.of {α β : Type} {R : α → β → Prop} : ∀ {a : List α} {b : List β}, a.length = b.length → (∀ (i : Nat) (x : α) (y : β), a[i]? = some x → b[i]? = some y → R x y) → All2 R a b := by
  intro a
  induction a with
  | nil => intro b hn _; cases b with
    | nil => exact .nil
    | cons y ys => simp at hn
  | cons x xs ih =>
    intro b hn h
    cases b with
    | nil => simp at hn
    | cons y ys => exact .cons (h 0 x y rfl rfl) (ih (by simpa using hn) fun i a b ha hb => h (i + 1) a b (by simpa using ha) (by simpa using hb))
def OptR {α β : Type} (R : α → β → Prop) : Option α → Option β → Prop
  | some u, some v => R u v
  | none, none => True
  | _, _ => False
omit [Globs] in
omit [Holes] in
theorem All2.mapSome {α β : Type} {R : α → β → Prop} {a : List α} {b : List β} (h : All2 R a b) : All2 (OptR R) (a.map some) (b.map some) := by
  induction h with
  | nil => exact .nil
  | cons h _ ih => exact .cons h ih

omit [Globs] in
omit [Holes] in
theorem mapM_get {α β : Type} {f : α → Option β} : ∀ (l : List α) (outs : List β), l.mapM f = some outs → ∀ (k : Nat) (c : α), l[k]? = some c → ∃ o, f c = some o ∧ outs[k]? = some o := by
  intro l
  induction l with
  | nil => intro outs _ k c hc; simp at hc
  | cons a l ih =>
    intro outs h k c hc
    rw [List.mapM_cons] at h
    cases hf : f a with
    | none => simp [hf] at h
    | some o =>
      rw [hf] at h
      cases hl : l.mapM f with
      | none => simp [hl] at h
      | some os =>
        rw [hl] at h
        have h : o :: os = outs := by simpa using h
        subst h
        cases k with
        | zero => simp at hc; subst hc; exact ⟨o, hf, rfl⟩
        | succ k => obtain ⟨o', h1, h2⟩ := ih os hl k c (by simpa using hc); exact ⟨o', h1, by simpa using h2⟩

omit [Globs] in
theorem any_rel {ρ : Emb} {p : MapEntry → Bool} (hp : ∀ e e', ERel ρ e e' → p e = p e') {es es' : Array MapEntry} (h : All2 (ERel ρ) es.toList es'.toList) : es'.all p = es.all p := by
  rw [← Array.all_toList, ← Array.all_toList]
  generalize es.toList = l at h
  generalize es'.toList = l' at h
  induction h with
  | nil => rfl
  | cons hab _ ih => simp only [List.all_cons, ih, hp _ _ hab]

omit [Globs] in
theorem flat_bool {b : Bool} : VRel ρ (.tuple #[.bool b]) (.tuple #[.bool b]) := rel_of_flat 3 _ (by cases b <;> rfl)

set_option maxHeartbeats 1000000 in
theorem anext_sound {F : Facts} {h : Heap} {w : World} (i : Inv F ρ h w) {v v' : Value} (hv : VRel ρ v v') (isS : Bool) (ty : TypeId) {outs : List (Value × Heap)} (e : anext h v isS = some outs) :
    ∃ out ∈ outs, ∃ v₂ w₁, (Instr.next v' isS ty).run P w = .ok v₂ w₁ ∧ Inv F ρ out.2 w₁ ∧ VRel ρ out.1 v₂ := by
  unfold anext at e
  split at e
  rotate_left
  · exact absurd e (by simp)
  rename_i r
  cases hv with
  | @ptr _ _ L hL =>
  split at e
  · -- a string
    rename_i s pos hg
    obtain ⟨ob, hob, hrel⟩ := i.live _ _ _ hg hL
    cases ob <;> simp only [ORel] at hrel
    obtain ⟨h0, rfl, rfl⟩ := hrel
    split at e
    · rename_i hpos
      split at e
      · rename_i h' hs
        simp only [Option.some.injEq] at e
        subst e
        refine ⟨_, List.mem_singleton.2 rfl, .tuple #[.bool true, goInt pos, .int .i32 (Utf8.decode s pos).1], { w with heap := w.heap.setIfInBounds L.blk (.stringIter s (pos + (Utf8.decode s pos).2)) }, ?_, ?_, rel_of_flat 3 _ rfl⟩
        · simp only [Instr.next, h0, Nat.add_zero]
          simp [getObj, setObj, Sem.run, hob, hpos]
        · have hlt : L.blk < w.heap.size := (i.dom _ _ hL).2
          refine i.turn hg rfl hs hL (o' := .stringIter s (pos + (Utf8.decode s pos).2)) ⟨h0, rfl, rfl⟩ rfl rfl rfl (by simp) (by simp [hlt]) fun k hk => ?_
          simp only [Array.getElem?_setIfInBounds]
          rw [if_neg (fun x => hk x.symm)]
      · exact absurd e (by simp)
    · rename_i hpos
      simp only [Option.some.injEq] at e
      subst e
      refine ⟨_, List.mem_singleton.2 rfl, .tuple #[.bool false], w, ?_, i, flat_bool⟩
      simp only [Instr.next, h0, Nat.add_zero]
      simp [getObj, Sem.run, hob, hpos]
  · -- a nil map
    rename_i since seen last hg
    obtain ⟨ob, hob, hrel⟩ := i.live _ _ _ hg hL
    cases ob <;> simp only [ORel] at hrel
    rename_i m' _ _ _
    obtain ⟨h0, rfl, rfl, rfl, hm⟩ := hrel
    cases m' <;> simp only at hm
    simp only [Option.some.injEq] at e
    subst e
    refine ⟨_, List.mem_singleton.2 rfl, .tuple #[.bool false], w, ?_, i, flat_bool⟩
    simp only [Instr.next, h0, Nat.add_zero]
    simp [getObj, Sem.run, hob]
  · -- a map
    rename_i m since seen last hg
    obtain ⟨ob, hob, hrel⟩ := i.live _ _ _ hg hL
    cases ob <;> simp only [ORel] at hrel
    rename_i m' _ _ _
    obtain ⟨h0, rfl, rfl, rfl, hm⟩ := hrel
    cases m' <;> simp only at hm
    rename_i m'
    obtain ⟨M, hM, hMb⟩ := hm
    subst hMb
    split at e
    rotate_left
    · exact absurd e (by simp)
    rename_i es clock hgm
    obtain ⟨obm, hobm, hrelm⟩ := i.live _ _ _ hgm hM
    cases obm <;> simp only [ORel] at hrelm
    rename_i es' clock'
    obtain ⟨_, rfl, hsz, hes⟩ := hrelm
    have hall : All2 (ERel ρ) es.toList es'.toList := All2.of (by simpa using hsz) fun k x y hx hy => hes k x y (by simpa using hx) (by simpa using hy)
    split at e
    · exact absurd e (by simp)
    rename_i hcond
    simp only at e
    have hb : ∀ (f : Nat → Bool) (a b : MapEntry), ERel ρ a b → f a.born = f b.born := fun f a b hab => by rw [hab.2.2.1]
    have hleft := filter_rel (hb (fun n => !seen.contains n)) hall
    have hold := filter_rel (hb (fun n => decide (n < since))) hleft
    have hnew := filter_rel (hb (fun n => decide (n ≥ since))) hleft
    have hempty : ((es'.filter fun e : MapEntry => !seen.contains e.born).filter fun x : MapEntry => decide (x.born < since)).isEmpty = ((es.filter fun e : MapEntry => !seen.contains e.born).filter fun x : MapEntry => decide (x.born < since)).isEmpty := by
      have := hold.length
      simp only [Array.length_toList] at this
      simp only [Array.isEmpty, this]
    have hcand : All2 (OptR (ERel ρ))
        ((if ((es.filter fun e : MapEntry => !seen.contains e.born).filter fun x : MapEntry => decide (x.born < since)).isEmpty then #[none] else #[]) ++ ((((es.filter fun e : MapEntry => !seen.contains e.born).filter fun x : MapEntry => decide (x.born < since)) ++ ((es.filter fun e : MapEntry => !seen.contains e.born).filter fun x : MapEntry => decide (x.born ≥ since))).map some)).toList
        ((if ((es'.filter fun e : MapEntry => !seen.contains e.born).filter fun x : MapEntry => decide (x.born < since)).isEmpty then #[none] else #[]) ++ ((((es'.filter fun e : MapEntry => !seen.contains e.born).filter fun x : MapEntry => decide (x.born < since)) ++ ((es'.filter fun e : MapEntry => !seen.contains e.born).filter fun x : MapEntry => decide (x.born ≥ since))).map some)).toList := by
      rw [hempty, Array.toList_append, Array.toList_append, Array.toList_map, Array.toList_map, Array.toList_append, Array.toList_append]
      refine All2.append ?_ (All2.mapSome (hold.append hnew))
      split
      · exact .cons trivial .nil
      · exact .nil
    have hne : 0 < ((if ((es.filter fun e : MapEntry => !seen.contains e.born).filter fun x : MapEntry => decide (x.born < since)).isEmpty then #[none] else #[]) ++ ((((es.filter fun e : MapEntry => !seen.contains e.born).filter fun x : MapEntry => decide (x.born < since)) ++ ((es.filter fun e : MapEntry => !seen.contains e.born).filter fun x : MapEntry => decide (x.born ≥ since))).map some)).toList.length := by
      rw [Array.length_toList, Array.size_append, Array.size_map, Array.size_append]
      split
      · show 0 < 1 + _
        omega
      · rename_i hnE
        have : 0 < ((es.filter fun e : MapEntry => !seen.contains e.born).filter fun x : MapEntry => decide (x.born < since)).size := by
          rcases Nat.eq_zero_or_pos ((es.filter fun e : MapEntry => !seen.contains e.born).filter fun x : MapEntry => decide (x.born < since)).size with hz | hz
          · exact absurd (by simp only [Array.isEmpty, hz]; rfl) hnE
          · exact hz
        omega
    generalize hC : ((if ((es.filter fun e : MapEntry => !seen.contains e.born).filter fun x : MapEntry => decide (x.born < since)).isEmpty then #[none] else #[]) ++ ((((es.filter fun e : MapEntry => !seen.contains e.born).filter fun x : MapEntry => decide (x.born < since)) ++ ((es.filter fun e : MapEntry => !seen.contains e.born).filter fun x : MapEntry => decide (x.born ≥ since))).map some)) = C at e hcand hne
    generalize hC' : ((if ((es'.filter fun e : MapEntry => !seen.contains e.born).filter fun x : MapEntry => decide (x.born < since)).isEmpty then #[none] else #[]) ++ ((((es'.filter fun e : MapEntry => !seen.contains e.born).filter fun x : MapEntry => decide (x.born < since)) ++ ((es'.filter fun e : MapEntry => !seen.contains e.born).filter fun x : MapEntry => decide (x.born ≥ since))).map some)) = C' at hcand
    have hsize : C'.size = C.size := by have := hcand.length; simpa using this.symm
    have hcond' : (!seen.isEmpty && !es'.isEmpty && es'.all (·.born ≥ last)) = false := by
      rw [any_rel (hb fun n => decide (n ≥ last)) hall]
      have : es'.isEmpty = es.isEmpty := by simp only [Array.isEmpty, hsz]
      rw [this]
      simpa using hcond
    -- the choice
    obtain ⟨k, wd, hk, hchoose, hwd⟩ : ∃ k wd, k < C.size ∧ (choose (.mapNext C'.size)).run P w = .ok k wd ∧ wd = { w with drawn := wd.drawn } := by
      rw [hsize]
      simp only [Array.length_toList] at hne
      by_cases hf : C.size ≤ 1
      · refine ⟨0, w, hne, ?_, rfl⟩
        simp [choose, Sem.run, Question.forced, hf]
      · refine ⟨w.tape w.drawn (.mapNext C.size) % C.size, { w with drawn := w.drawn + 1 }, Nat.mod_lt _ hne, ?_, rfl⟩
        simp [choose, Sem.run, Question.forced, hf, Question.cut]
    have hck : C.toList[k]? = some C[k] := by simp [hk]
    obtain ⟨c', hc', hrelc⟩ := hcand.getElem k _ hck
    obtain ⟨out, hout, hmem⟩ := mapM_get _ _ e k _ hck
    refine ⟨out, List.mem_of_getElem? hmem, ?_⟩
    have hC'k : C'[k]? = some c' := by simpa using hc'
    have iw : Inv F ρ h wd := by rw [hwd]; exact i.drawn _
    have hobw : wd.heap[L.blk]? = some (.mapIter (some M.blk) since seen last) := by rw [hwd]; exact hob
    have pre : ∀ (K : Result Value), ((match (generalizing := false) c' with
        | some e => (do setObj L.blk (.mapIter (some M.blk) since (seen.push e.born) clock); pure (.tuple #[.bool true, e.key, e.val]))
        | none => pure (.tuple #[.bool false]) : Sem Value)).run P wd = K → (Instr.next (.pointer (some ⟨L.blk, L.off + 0, none⟩)) false ty).run P w = K := by
      intro K hK
      simp only [Instr.next, h0, Nat.add_zero]
      rw [← hC'] at hC'k hchoose
      simp only [Sem.run_bind]
      have e1 : (getObj L.blk).run P w = .ok (.mapIter (some M.blk) since seen last) w := by simp [getObj, Sem.run, hob]
      have e2 : (getObj M.blk).run P w = .ok (.map es' clock) w := by simp [getObj, Sem.run, hobm]
      simp only [e1, Result.andThen_ok, Sem.run_bind, e2]
      rw [if_neg (by rw [hcond']; simp)]
      simp only [Sem.run_bind, hchoose, Result.andThen_ok]
      rw [hC'k]
      cases c' <;> exact hK
    cases hCk : C[k] with
    | none =>
      rw [hCk] at hout hrelc
      simp only [Option.some.injEq] at hout
      subst hout
      cases c' with
      | some _ => exact hrelc.elim
      | none => exact ⟨_, wd, pre _ rfl, iw, flat_bool⟩
    | some en =>
      rw [hCk] at hout hrelc
      simp only at hout
      cases c' with
      | none => exact hrelc.elim
      | some en' =>
        split at hout
        · rename_i h' hs
          simp only [Option.some.injEq] at hout
          subst hout
          obtain ⟨k1, k2, k3, k4⟩ := (hrelc : ERel ρ en en')
          have hlt : L.blk < wd.heap.size := (iw.dom _ _ hL).2
          refine ⟨.tuple #[.bool true, en'.key, en'.val], { wd with heap := wd.heap.setIfInBounds L.blk (.mapIter (some M.blk) since (seen.push en'.born) clock) }, pre _ ?_, ?_, ?_⟩
          · simp [setObj, Sem.run, hobw]
          · refine iw.turn hg rfl hs hL (o' := .mapIter (some M.blk) since (seen.push en'.born) clock) ⟨h0, rfl, by rw [k3], rfl, M, hM, rfl⟩ rfl rfl rfl (by simp) (by simp [hlt]) fun k hk => ?_
            simp only [Array.getElem?_setIfInBounds]
            rw [if_neg (fun x => hk x.symm)]
          · refine .tuple rfl ?_
            have : VsRel ρ #[.bool true, en.key, en.val] #[.bool true, en'.key, en'.val] := by
              refine VsRel.push (xs := #[.bool true, en.key]) (ys := #[.bool true, en'.key]) (VsRel.push (xs := #[.bool true]) (ys := #[.bool true]) (VsRel.push (xs := #[]) (ys := #[]) .empty (.bool true)) ?_) k4
              rw [← k1]
              exact rel_of_flat 3 _ k2
            exact this.2
        · exact absurd hout (by simp)
  · exact absurd e (by simp)
end
end Go.Ev
