/- The concrete evaluator, part F: append is sound; slicing; bytes and strings; copy. -/
import Derived.Test.YtakhkpgkbbcnhaaGreatDoorEvE
namespace Go.Ev
open Go
variable [Globs] [Holes]

omit [Globs] in
omit [Holes] in
theorem ro_loose {c : Array Value} {t : TypeId} {fr : Nat × Nat} (h : Nat.beq fr.1 1 = true) : roObj (.cells c t fr) = false := by
  have := Nat.eq_of_beq_eq_true h
  show Nat.beq fr.1 2 = false
  rw [this]
  rfl
omit [Globs] [Holes] in
theorem setCells_heap : ∀ (vs : List Value) (w : World) (b p : Nat) (c : Array Value) (e : TypeId) (fr : Nat × Nat), w.heap[b]? = some (.cells c e fr) → p + vs.length ≤ c.size →
    ∃ c' : Array Value, (w.setCells b p vs).heap[b]? = some (.cells c' e fr) ∧ c'.size = c.size ∧ (∀ j, j < p ∨ p + vs.length ≤ j → c'[j]? = c[j]?) ∧ (∀ j, j < vs.length → c'[p + j]? = vs[j]?) := by
  intro vs
  induction vs with
  | nil => intro w b p c e fr hb _; exact ⟨c, hb, rfl, fun _ _ => rfl, fun j hj => by simp at hj⟩
  | cons v vs ih =>
    intro w b p c e fr hb hp
    simp only [List.length_cons] at hp
    have h1 : (w.setCell ⟨b, p, none⟩ v).heap[b]? = some (.cells (c.setIfInBounds p v) e fr) := by
      simp only [World.setCell, Array.getElem?_modify, if_true, hb]
      rfl
    obtain ⟨c', e1, e2, e3, e4⟩ := ih (w.setCell ⟨b, p, none⟩ v) b (p + 1) _ e fr h1 (by simp; omega)
    refine ⟨c', e1, by simp [e2], fun j hj => ?_, fun j hj => ?_⟩
    · rw [e3 j (by simp only [List.length_cons] at hj; omega)]
      simp only [List.length_cons] at hj
      rw [Array.getElem?_setIfInBounds, if_neg (by omega)]
    · cases j with
      | zero =>
        rw [Nat.add_zero, e3 p (by omega), Array.getElem?_setIfInBounds]
        simp; omega
      | succ j =>
        rw [show p + (j + 1) = p + 1 + j by omega, e4 j (by simpa using hj)]
        simp
omit [Globs] in
omit [Holes] in
theorem setCells_other : ∀ (vs : List Value) (w : World) (b p k : Nat), k ≠ b → (w.setCells b p vs).heap[k]? = w.heap[k]? := by
  intro vs
  induction vs with
  | nil => intro w b p k _; rfl
  | cons v vs ih =>
    intro w b p k hk
    rw [World.setCells, ih _ _ _ _ hk]
    simp only [World.setCell, Array.getElem?_modify]
    rw [if_neg (fun x => hk x.symm)]
omit [Globs] in
omit [Holes] in
theorem setCells_rest : ∀ (vs : List Value) (w : World) (b p : Nat), (w.setCells b p vs).tape = w.tape ∧ (w.setCells b p vs).os = w.os ∧ (w.setCells b p vs).output = w.output ∧ (w.setCells b p vs).heap.size = w.heap.size := by
  intro vs
  induction vs with
  | nil => intro w b p; exact ⟨rfl, rfl, rfl, rfl⟩
  | cons v vs ih =>
    intro w b p
    obtain ⟨h1, h2, h3, h4⟩ := ih (w.setCell ⟨b, p, none⟩ v) b (p + 1)
    exact ⟨h1, h2, h3, by rw [World.setCells, h4]; simp [World.setCell]⟩

omit [Globs] in
omit [Holes] in
theorem bound_aux (a b : Nat) (h : a ≤ 16777216) (h2 : b ≤ (3 * a + 2000) * 65536) : b ≤ 281474976710656 := by
  refine Nat.le_trans h2 (Nat.le_trans (Nat.mul_le_mul_right _ (Nat.add_le_add_right (Nat.mul_le_mul_left 3 h) 2000)) (by decide))

section
variable {P : Program} {ρ : Emb}

set_option maxHeartbeats 1000000 in
theorem aappend_sound {t tx ty : TypeId} {s x s' x' : Value} (hs : VRel ρ s s') (hx : VRel ρ x x') :
    SimF P VRel ρ (aappend P t tx s x) (Builtin.append_ #[t, tx] ty #[s', x']) := by
  intro F h w r h₁ i ha
  unfold aappend at ha
  split at ha
  rotate_left
  · exact absurd ha (by simp)
  rename_i e hu
  split at ha
  rotate_left
  · exact absurd ha (by simp)
  rename_i inf hinf
  split at ha
  rotate_left
  · exact absurd ha (by simp)
  rename_i z base len cap hz
  split at ha
  · exact absurd ha (by simp)
  rename_i n news hsrc
  split at ha
  · -- there is room
    rename_i hroom
    split at ha
    · split at ha
      rotate_left
      · exact absurd ha (by simp)
      rename_i hone
      simp only [Option.some.injEq, Prod.mk.injEq] at ha
      obtain ⟨rfl, rfl⟩ := ha
      obtain ⟨news', hnr, hS, hnsz⟩ := asrc_src i hx hsrc hone
      cases hs
      refine ⟨ρ, _, w, ?_, Emb.le_refl _, i, .nilSlice _ _⟩
      rcases hS.kind with ⟨e', hk⟩ | hk <;> simp [Builtin.append_, run_underlying hu, run_underlying hk, sizeOf, typeInfo, hinf, hS.len, hroom, hS.cells]
    rename_i a
    split at ha
    rotate_left
    · exact absurd ha (by simp)
    rename_i hc1
    simp only [Bool.and_eq_true] at hc1
    split at ha
    rotate_left
    · exact absurd ha (by simp)
    rename_i h' hst
    simp only [Option.some.injEq, Prod.mk.injEq] at ha
    obtain ⟨rfl, rfl⟩ := ha
    obtain ⟨news', hnr, hS, hnsz⟩ := asrc_src i hx hsrc hc1.2
    cases hs with
    | @slice b o _ _ o' cap' L hL hsr =>
      have hcap := hsr.le
      have hres : SRel L o (len + n) cap o' cap' := by
        rcases hsr with ⟨h1, h2⟩ | ⟨h1, h2, h3, h4, h5 | h5⟩
        · exact .inl ⟨h1, h2⟩
        · exact .inr ⟨h1, h2, h3, h4, .inl h5⟩
        · exact .inr ⟨h1, h2, h3, h4, .inr ⟨by omega, h5.2⟩⟩
      by_cases h0 : news'.toList = []
      · have hst' : h' = h := by
          have : news.toList = [] := by
            have h1 : news'.size = 0 := by simpa using congrArg List.length h0
            have h2 : news.size = 0 := by rw [hnr.1, h1]
            exact List.length_eq_zero_iff.1 (by simpa using h2)
          rw [this] at hst
          simpa [Heap.setCells] using hst.symm
        subst hst'
        have hrun := run_append_room_src (P := P) w t tx ty e inf hu hinf L.blk o' len cap' x' n news'.toList hS (by omega) (fun j hj => by rw [h0] at hj; simp at hj) (fun j hj => by rw [h0] at hj; simp at hj)
        rw [h0] at hrun
        exact ⟨ρ, _, _, hrun, Emb.le_refl _, i, .slice hL hres⟩
      · have ho' : o' = L.off + o := hsr.off_of_pos (.inr (by
          have : 0 < n := by
            rcases Nat.eq_zero_or_pos n with hn0 | hn0
            · have h1 : news.size = 0 := by rw [hnsz, hn0, Nat.zero_mul]
              have h2 : news'.size = 0 := by rw [← hnr.1, h1]
              exact absurd (List.length_eq_zero_iff.1 (by simpa using h2)) h0
            · exact hn0
          omega))
        subst ho'
        obtain ⟨i', hcells⟩ := Inv.setCells _ _ i hL hnr.list.1 hnr.list.2 hst
        have hrun := run_append_room_src (P := P) w t tx ty e inf hu hinf L.blk (L.off + o) len cap' x' n news'.toList hS (by omega)
          (fun j hj => by have := (hcells j hj).1; rwa [← Nat.add_assoc] at this) (fun j hj => by have := (hcells j hj).2; rwa [← Nat.add_assoc] at this)
        rw [Nat.add_assoc] at hrun
        exact ⟨ρ, _, _, hrun, Emb.le_refl _, i', .slice hL hres⟩
  · -- there is none that is known
    rename_i hnroom
    split at ha
    rotate_left
    · exact absurd ha (by simp)
    rename_i hc1
    simp only [Bool.and_eq_true, decide_eq_true_eq] at hc1
    obtain ⟨⟨⟨⟨hlen, hbytes⟩, hzf⟩, hone⟩, hzs⟩ := hc1
    have hzs : z.cells.size = inf.size := Nat.eq_of_beq_eq_true hzs
    split at ha
    · exact absurd ha (by simp)
    rename_i olds holds
    obtain ⟨news', hnr, hS, hnsz⟩ := asrc_src i hx hsrc hone
    obtain ⟨base', cap', olds', rfl, hor, hosz, hfirst⟩ := aolds_run (P := P) i hs holds
    unfold lenUpTo at hlen
    by_cases hroom : len + n ≤ cap'
    · -- in place all the same
      cases hs with
      | nilSlice => exact absurd hroom hnroom
      | @slice b o _ _ o' _ L hL hsr =>
        rcases hsr with ⟨h1, _⟩ | ⟨g1, g2, g3, g4, g5⟩
        · subst h1; exact absurd hroom hnroom
        have ho' : o' = L.off + o := by
          rcases g5 with g5 | g5
          · exact g5
          · omega
        unfold anew letGo at ha
        simp only at ha
        cases hg : h.get b with
        | none => simp [hg] at ha
        | some ob =>
        cases ob with
        | cells c el fr =>
          obtain ⟨ob', hob', hrel⟩ := i.live _ _ _ hg hL
          cases ob' <;> simp only [ORel] at hrel
          rename_i c' el' fr'
          obtain ⟨r1, r2, r3, r4, r5, r6, r7⟩ := hrel
          have hloose : isLoose fr o cap c.size = true := by
            unfold isLoose
            rw [← r1, g1, ← r2, ← r3]
            simp [g2]
          simp only [hg, hloose, if_true] at ha
          split at ha
          · exact absurd ha (by simp)
          rename_i h0 hset
          split at hset
          rotate_left
          · exact absurd hset (by simp)
          rename_i hfr
          split at ha
          · exact absurd ha (by simp)
          rename_i h'' hpush
          simp only [Option.some.injEq, Prod.mk.injEq] at ha
          obtain ⟨rfl, rfl⟩ := ha
          obtain ⟨i0, hnx, hgone, hback⟩ := i.kill hset
          have hesz : L.esz = inf.size := by rw [r2, hfr]
          have hns' : news'.toList.length = n * inf.size := by rw [← hnsz, hnr.1]; simp
          have hbound : o' + len * inf.size + news'.toList.length ≤ c'.size := by
            rw [hns', ← r4, Nat.add_assoc, ← Nat.add_mul]
            rw [hesz] at g4
            exact Nat.le_trans (Nat.add_le_add_left (Nat.mul_le_mul_right _ hroom) _) g4
          have hrun := run_append_room_src (P := P) w t tx ty e inf hu hinf L.blk o' len cap' x' n news'.toList hS hroom
            (fun j hj => by simp only [World.cell?, hob']; simp; omega)
            (fun j hj => by
              have := noFr r7 (o' + len * inf.size + j) (by omega)
              simp only [World.frozen?, hob', Bool.and_eq_false_iff, decide_eq_false_iff_not]
              by_cases hx : fr'.1 ≤ o' + len * inf.size + j
              · exact .inr fun hy => this ⟨hx, hy⟩
              · exact .inl hx)
          obtain ⟨c₂, q1, q2, q3, q4⟩ := setCells_heap news'.toList w L.blk (o' + len * inf.size) c' el' fr' hob' hbound
          obtain ⟨s1, s2, s3, s4⟩ := setCells_rest news'.toList w L.blk (o' + len * inf.size)
          obtain ⟨L2, hL2⟩ : ∃ L2 : Loc, L2 = ⟨L.blk, o', L.tot, (len + n) * inf.size, inf.size, true⟩ := ⟨_, rfl⟩
          have hle := Emb.le_add L2 i0.next_none
          have hfree : ∀ b' o₁ M, h0.get b' = some o₁ → ρ b' = some M → M.blk ≠ L2.blk := by
            intro b' o₁ M hb' hM hMM
            have := i.inj b' b o₁ _ M L (hback _ _ hb') hg hM hL (by rw [hMM, hL2])
            subst this
            rw [hgone] at hb'
            exact absurd hb' (by simp)
          refine ⟨ρ.add h0.next L2, _, _, hrun, hle, i0.adopt (o' := .cells c₂ el' fr') hpush ?_ s1 s2 s3 (by rw [s4]; exact Nat.le_refl _) ?_ (by rw [hL2]; exact q1) ?_ hfree ?_, ?_⟩
          · subst hL2
            refine ⟨rfl, rfl, by simp [hosz, hnsz, Nat.add_mul], by rw [q2, r4], ?_, ?_, by rw [r4] at r7 ⊢; exact r7⟩
            · simp only
              rw [hesz] at g4
              exact Nat.le_trans (Nat.add_le_add_left (Nat.mul_le_mul_right _ hroom) _) g4
            · intro j v v' hv hv'
              simp only at hv'
              refine VRel.mono hle ?_
              rw [Array.getElem?_append] at hv
              split at hv
              · rename_i hlt
                -- among the old ones
                rw [q3 (o' + j) (by omega)] at hv'
                obtain ⟨olds'', hor'', _, hread⟩ := i.cells (a := ⟨b, o, none⟩) (a' := ⟨L.blk, L.off + o, none⟩) ⟨L, hL, rfl, rfl⟩ (by simpa [aolds] using holds)
                obtain ⟨y, hy, hvy⟩ := hor''.get hv
                have := hread j y hy
                rw [Addr.add_lit, ← ho'] at this
                simp only [World.cell?, hob'] at this
                simp only [Option.isSome_none, Bool.false_eq_true, if_false] at this
                rw [this] at hv'
                cases hv'
                exact hvy
              · rename_i hge
                have hj : j - olds.size < news.size := (Array.getElem?_eq_some_iff.1 hv).1
                have hj2 : j - olds.size < news'.toList.length := by rw [hns', ← hnsz]; exact hj
                have := q4 (j - olds.size) hj2
                rw [show o' + len * inf.size + (j - olds.size) = o' + j by omega] at this
                rw [this] at hv'
                exact hnr.2 _ v v' hv (by simpa using hv')
          · rw [s4, hL2]; exact (i.dom _ _ hL).2
          · intro k hk hklt
            rw [hL2] at hk
            exact setCells_other _ _ _ _ _ hk
          · intro k o₁ hk hkk
            exact i.apart b _ L k o₁ hg hL hk (ro_loose (r1.symm.trans g1)) (by rw [hkk, hL2])
          · rw [hnx]
            have hb2 : (ρ.add h.next L2) h.next = some L2 := Emb.add_self _ _ _
            have := VRel.slice (ρ := ρ.add h.next L2) (b := h.next) (o := 0) (len := len + n) (cap := len + n) (o' := o') (cap' := cap') (L := L2) hb2 (.inr ?_)
            · rw [hL2] at this ⊢; exact this
            · subst hL2
              refine ⟨rfl, by simp, hroom, ?_, .inl (by simp)⟩
              rw [hesz] at g4
              exact g4
        | _ => simp [hg] at ha
    · -- a new row
      have hrun := run_append_grow_src (P := P) w t tx ty e inf z hu hinf hz base' len cap' olds'.toList (by simpa using hfirst) x' n news'.toList hS (by omega) (by omega) (by
        have h1 := nextslicecap_le (need := len + n) (c := cap') (by omega)
        have h2 : Builtin.nextslicecap (len + n) cap' * inf.bytes ≤ (3 * (len + n) + 2000) * 65536 := Nat.mul_le_mul h1 hbytes
        exact bound_aux _ _ hlen h2)
      obtain ⟨σ, hle, hi', hv⟩ := anew_grown i hor hnr hosz hnsz ha (grownCap w (len + n) cap' e) (grownCap_ge w _ _ _) (Builtin.zeroCells z.cells (grownCap w (len + n) cap' e - (len + n)))
        (by simp [Builtin.zeroCells, hzs])
      exact ⟨σ, _, _, hrun, hle, hi', hv⟩
end
end Go.Ev
