/- The concrete evaluator, part G: slicing, cap, len, bytes and strings, comparisons with nil, what only computes. -/
import Derived.Test.YtakhkpgkbbcnhaaGreatDoorEvF
import Derived.Orders
namespace Go.Ev
open Go
variable [Globs] [Holes]

/-- What only computes. -/
def prun {α : Type} (P : Program) : Sem α → Option α
  | .pure a => some a
  | .program k => prun P (k P)
  | .mark _ k => prun P k
  | .choose q k => if q.forced then prun P (k 0) else none
  | _ => none

omit [Globs] in
omit [Holes] in
theorem prun_run {α : Type} (P : Program) (s : Sem α) : ∀ (a : α), prun P s = some a → ∀ w, s.run P w = .ok a w := by
  induction s with
  | pure x => intro a h w; simp only [prun, Option.some.injEq] at h; rw [h]; rfl
  | program k ih => intro a h w; exact ih P a h w
  | mark m k ih => intro a h w; exact ih a h w
  | choose q k ih =>
    intro a h w
    simp only [prun] at h
    split at h
    · rename_i hq
      simp only [Sem.run, hq, if_true]
      exact ih 0 a h w
    · exact absurd h (by simp)
  | _ => intro a h w; simp [prun] at h

def natOpt : Option Value → Option (Option Nat)
  | none => some none
  | some (.int _ n) => if 0 ≤ n then some (some n.toNat) else none
  | some _ => none

def optRel (ρ : Emb) : Option Value → Option Value → Prop
  | none, none => True
  | some v, some v' => VRel ρ v v'
  | _, _ => False

omit [Globs] in
theorem natOpt_rel {ρ : Emb} {v v' : Option Value} (h : optRel ρ v v') {n : Option Nat} (e : natOpt v = some n) :
    (v' = none ∧ n = none) ∨ ∃ (k : IntKind) (i : Nat), v' = some (.int k i) ∧ n = some i := by
  cases v with
  | none => cases v' with
    | none => simp only [natOpt, Option.some.injEq] at e; exact .inl ⟨rfl, e.symm⟩
    | some _ => exact h.elim
  | some v => cases v' with
    | none => exact h.elim
    | some v' =>
      cases h <;> first | (simp [natOpt] at e; done) | skip
      rename_i k i
      simp only [natOpt] at e
      split at e
      · rename_i hi
        simp only [Option.some.injEq] at e
        exact .inr ⟨k, i.toNat, by rw [Int.toNat_of_nonneg hi], e.symm⟩
      · exact absurd e (by simp)

omit [Globs] in
omit [Holes] in
theorem run_bounds {P : Program} (w : World) (len cap : Nat) {lo hi mx : Option Value} {l h m : Option Nat} (hl : (lo = none ∧ l = none) ∨ ∃ (k : IntKind) (i : Nat), lo = some (.int k i) ∧ l = some i)
    (hh : (hi = none ∧ h = none) ∨ ∃ (k : IntKind) (i : Nat), hi = some (.int k i) ∧ h = some i) (hm : (mx = none ∧ m = none) ∨ ∃ (k : IntKind) (i : Nat), mx = some (.int k i) ∧ m = some i)
    (h0 : ¬ (h = none ∧ m.isSome = true)) (h1 : l.getD 0 ≤ h.getD len) (h2 : h = none ∨ h.getD len ≤ m.getD cap) (h3 : m.getD cap ≤ cap) :
    (Instr.sliceBounds true len cap lo hi mx).run P w = .ok (l.getD 0, h.getD len, m.getD cap) w := by
  rcases hl with ⟨rfl, rfl⟩ | ⟨kl, il, rfl, rfl⟩ <;> rcases hh with ⟨rfl, rfl⟩ | ⟨kh, ih, rfl, rfl⟩ <;> rcases hm with ⟨rfl, rfl⟩ | ⟨km, im, rfl, rfl⟩ <;>
    simp at h0 h1 h2 h3 <;> simp [Instr.sliceBounds, run_sliceBound, h1, h2, h3]

def aslice (P : Program) (t : TypeId) (x : Value) (lo hi mx : Option Value) (h : Heap) : Option (Value × Heap) :=
  match P.underlying t, x with
  | some (.slice e), .slice base len cap =>
    match natOpt lo, natOpt hi, natOpt mx, P.info? e with
    | some l, some hh, some m, some inf =>
      if (hh.isNone && m.isSome) = false ∧ l.getD 0 ≤ hh.getD len ∧ hh.getD len ≤ m.getD cap ∧ m.getD cap ≤ cap then
        match base with
        | none => some (.slice none (hh.getD len - l.getD 0) (m.getD cap - l.getD 0), h)
        | some a => match h.get a.block with
          | some (.cells c _ fr) =>
            if isLoose fr a.off cap c.size && m.isNone then
              if fr.2 = inf.size && decide (len ≤ cap) && a.spot.isNone then some (.slice (some (a.add (l.getD 0 * inf.size))) (hh.getD len - l.getD 0) (cap - l.getD 0), h) else none
            else if a.spot.isNone then
              some (.slice (some (if m.getD cap = l.getD 0 then a else a.add (l.getD 0 * inf.size))) (hh.getD len - l.getD 0) (m.getD cap - l.getD 0), h)
            else none
          | _ => none
      else none
    | _, _, _, _ => none
  | _, _ => none

section
variable {P : Program} {ρ : Emb}

omit [Globs] in
omit [Holes] in
theorem addr_add (b o n : Nat) : Addr.add ⟨b, o, none⟩ n = ⟨b, o + n, none⟩ := by
  unfold Addr.add
  split
  · rename_i h; simp [h]
  · rfl

omit [Globs] in
omit [Holes] in
theorem elem_of {t e : TypeId} (h : P.underlying t = some (.slice e)) : P.underlying t = some (.slice (P.elem t)) ∧ P.elem t = e := by
  have : P.elem t = e := by simp [Program.elem, h]
  exact ⟨by rw [this]; exact h, this⟩

set_option maxHeartbeats 1000000 in
theorem aslice_sound {t : TypeId} {x x' : Value} {lo hi mx lo' hi' mx' : Option Value} (hx : VRel ρ x x') (hlo : optRel ρ lo lo') (hhi : optRel ρ hi hi') (hmx : optRel ρ mx mx') :
    ∀ F h w r h₁, Inv F ρ h w → aslice P t x lo hi mx h = some (r, h₁) → ∃ b, (Instr.sliceAt t x' lo' hi' mx').run P w = .ok b w ∧ VRel ρ r b := by
  intro F h w r h₁ i ha
  unfold aslice at ha
  split at ha
  rotate_left
  · exact absurd ha (by simp)
  rename_i e base len cap hu
  split at ha
  rotate_left
  · exact absurd ha (by simp)
  rename_i l hh m inf el eh em einf
  split at ha
  rotate_left
  · exact absurd ha (by simp)
  rename_i hc
  obtain ⟨c0, c1, c2, c3⟩ := hc
  have c0' : ¬ (hh = none ∧ m.isSome = true) := by
    rintro ⟨rfl, hm⟩
    simp [hm] at c0
  obtain ⟨hu', hel⟩ := elem_of hu
  have hrl := natOpt_rel hlo el
  have hrh := natOpt_rel hhi eh
  have hrm := natOpt_rel hmx em
  have run : ∀ (a' : Option Addr) (cap' : Nat), cap ≤ cap' → (m = none ∨ m.getD cap ≤ cap') →
      (Instr.sliceAt t (.slice a' len cap') lo' hi' mx').run P w = .ok (sliced a' (l.getD 0) (hh.getD len) (m.getD cap') inf.size) w := by
    intro a' cap' hcc hmm
    rw [run_sliceAt_slice _ _ _ _ _ _ hu', run_slice_any _ _ _ _ _ hu']
    rw [run_bounds w len cap' hrl hrh hrm c0' c1 (by
      cases hh with
      | none => exact .inl rfl
      | some v => refine .inr ?_; cases m <;> simp at c2 ⊢ <;> omega) (by cases m <;> simp at hmm ⊢; exact hmm)]
    simp [sizeOf, typeInfo, hel, einf]
  cases hx with
  | nilSlice =>
    simp only [Option.some.injEq, Prod.mk.injEq] at ha
    obtain ⟨rfl, rfl⟩ := ha
    refine ⟨_, run none cap (Nat.le_refl _) (by cases m <;> simp at c3 ⊢; exact c3), ?_⟩
    unfold sliced
    have : (if m.getD cap = l.getD 0 then (none : Option Addr) else Option.map (fun x : Addr => x.add (l.getD 0 * inf.size)) none) = none := by split <;> rfl
    rw [this]
    exact .nilSlice _ _
  | @slice b o _ _ o' cap' L hL hsr =>
    simp only at ha
    split at ha
    rotate_left
    · exact absurd ha (by simp)
    rename_i c ce fr hg
    obtain ⟨ob', hob', hrel⟩ := i.live _ _ _ hg hL
    cases ob' <;> simp only [ORel] at hrel
    rename_i c' el' fr'
    obtain ⟨r1, r2, r3, r4, r5, r6, r7⟩ := hrel
    have hcc := hsr.le
    have hrun := run (some ⟨L.blk, o', none⟩) cap' hcc (by cases m <;> simp at c3 ⊢; omega)
    refine ⟨_, hrun, ?_⟩
    split at ha
    · rename_i hl
      simp only [Bool.and_eq_true, Option.isNone_iff_eq_none] at hl
      obtain ⟨hl, rfl⟩ := hl
      split at ha
      rotate_left
      · exact absurd ha (by simp)
      rename_i hz
      simp only [Bool.and_eq_true, decide_eq_true_eq] at hz
      simp only [Option.some.injEq, Prod.mk.injEq] at ha
      obtain ⟨rfl, rfl⟩ := ha
      unfold isLoose at hl
      simp only [Bool.and_eq_true, decide_eq_true_eq] at hl
      have hloose : L.loose = true := by rw [r1]; exact hl.1
      have hesz : L.esz = inf.size := by rw [r2]; exact hz.1.1
      have hend : o + cap * L.esz = L.len := by rw [r2, r3]; exact hl.2
      have hlen := hz.1.2
      simp only [Option.getD_none] at c2 c3
      unfold sliced
      simp only [Option.getD_none, Option.map_some, addr_add]
      have hlc : l.getD 0 ≤ cap := Nat.le_trans c1 c2
      have hend' : o + l.getD 0 * inf.size + (cap - l.getD 0) * L.esz = L.len := by
        rw [← hend, hesz, Nat.add_assoc, ← Nat.add_mul]
        congr 2; omega
      have htot : o' + cap' * L.esz ≤ L.tot := by
        rcases hsr with ⟨g1, g2⟩ | ⟨_, _, _, g4, _⟩
        · rw [g1, g2, Nat.add_assoc, hend]; exact r5
        · exact g4
      by_cases hcl : cap' = l.getD 0
      · rw [if_pos hcl]
        refine .slice hL (.inr ⟨hloose, hend', by omega, ?_, .inr ⟨by omega, by omega⟩⟩)
        have : cap' - l.getD 0 = 0 := by omega
        rw [this, Nat.zero_mul]
        have : o' ≤ o' + cap' * L.esz := Nat.le_add_right _ _
        omega
      · rw [if_neg hcl]
        have ho' : o' = L.off + o := hsr.off_of_pos (.inr (by omega))
        refine .slice hL (.inr ⟨hloose, hend', by omega, ?_, .inl (by rw [ho', Nat.add_assoc])⟩)
        rw [hesz] at htot ⊢
        rw [Nat.add_assoc, ← Nat.add_mul]
        have : l.getD 0 + (cap' - l.getD 0) = cap' := by omega
        rw [this]
        exact htot
    · rename_i hl
      split at ha
      rotate_left
      · exact absurd ha (by simp)
      simp only [Option.some.injEq, Prod.mk.injEq] at ha
      obtain ⟨rfl, rfl⟩ := ha
      have hmm : m.getD cap' = m.getD cap := by
        cases m with
        | some _ => rfl
        | none =>
          simp only [Option.getD_none]
          rcases hsr with ⟨g1, _⟩ | ⟨g1, g2, _⟩
          · exact g1
          · refine absurd ?_ hl
            simp only [Option.isNone_none, Bool.and_true]
            unfold isLoose
            rw [← r1, g1, ← r2, ← r3]
            simp [g2]
      unfold sliced
      rw [hmm]
      simp only [Option.map_some, addr_add]
      by_cases hcl : m.getD cap = l.getD 0
      · rw [if_pos hcl, if_pos hcl]
        have hz1 : hh.getD len - l.getD 0 = 0 := by omega
        have hz2 : m.getD cap - l.getD 0 = 0 := by omega
        rw [hz1, hz2]
        rcases hsr with ⟨g1, g2⟩ | ⟨g1, g2, g3, g4, g5 | g5⟩
        · exact .slice hL (.inl ⟨rfl, g2⟩)
        · exact .slice hL (.inl ⟨rfl, g5⟩)
        · refine .slice hL (.inr ⟨g1, ?_, Nat.le_refl _, ?_, .inr ⟨rfl, rfl⟩⟩)
          · have : cap = 0 := by omega
            rw [this] at g2; exact g2
          · rw [g5.2] at g4; exact g4
      · rw [if_neg hcl, if_neg hcl]
        have ho' : o' = L.off + o := hsr.off_of_pos (.inr (by omega))
        rw [ho', Nat.add_assoc]
        exact .slice hL (.inl ⟨rfl, rfl⟩)

/-- 'cap', where it is known. -/
def acap (P : Program) (t : TypeId) (x : Value) (h : Heap) : Option Value :=
  match P.underlying t, x with
  | some (.slice _), .slice none _ c => some (goInt c)
  | some (.slice _), .slice (some a) _ cap => match h.get a.block with
    | some (.cells c _ fr) => if isLoose fr a.off cap c.size then none else some (goInt cap)
    | _ => none
  | some (.array n _), _ => some (goInt n)
  | _, _ => none

theorem acap_sound {t ty : TypeId} {x x' : Value} (hx : VRel ρ x x') {F : Facts} {h : Heap} {w : World} {v : Value} (i : Inv F ρ h w) (e : acap P t x h = some v) :
    (Builtin.cap_ #[t] ty #[x']).run P w = .ok v w ∧ VRel ρ v v := by
  unfold acap at e
  split at e
  · rename_i hu
    simp only [Option.some.injEq] at e
    subst e
    cases hx
    exact ⟨by simp [Builtin.cap_, run_underlying hu], .int _ _⟩
  · rename_i a len cap hu
    split at e
    · rename_i c ce fr hg
      split at e
      · exact absurd e (by simp)
      · rename_i hl
        simp only [Option.some.injEq] at e
        subst e
        cases hx with
        | @slice b o _ _ o' cap' L hL hsr =>
          have : cap' = cap := by
            rcases hsr with ⟨g1, _⟩ | ⟨g1, g2, _⟩
            · exact g1
            · obtain ⟨ob', hob', hrel⟩ := i.live _ _ _ hg hL
              cases ob' <;> simp only [ORel] at hrel
              refine absurd ?_ hl
              unfold isLoose
              rw [← hrel.1, g1, ← hrel.2.1, ← hrel.2.2.1]
              simp [g2]
          subst this
          exact ⟨by simp [Builtin.cap_, run_underlying hu], .int _ _⟩
    · exact absurd e (by simp)
  · rename_i hu
    simp only [Option.some.injEq] at e
    subst e
    exact ⟨by simp [Builtin.cap_, run_underlying hu], .int _ _⟩
  · exact absurd e (by simp)

/-- 'len'. -/
def alen (P : Program) (t : TypeId) (x : Value) (h : Heap) : Option Value :=
  match P.underlying t, x with
  | some .string, .string s => some (goInt s.size)
  | some (.array n _), _ => some (goInt n)
  | some (.slice _), .slice _ n _ => some (goInt n)
  | some (.map _ _), .map none => some (goInt 0)
  | some (.map _ _), .map (some r) => match h.get r with
    | some (.map es _) => some (goInt es.size)
    | _ => none
  | some (.pointer arr), _ => match P.underlying arr with
    | some (.array n _) => some (goInt n)
    | _ => none
  | _, _ => none

theorem alen_sound {t ty : TypeId} {x x' : Value} (hx : VRel ρ x x') {F : Facts} {h : Heap} {w : World} {v : Value} (i : Inv F ρ h w) (e : alen P t x h = some v) :
    (Builtin.len_ #[t] ty #[x']).run P w = .ok v w ∧ VRel ρ v v := by
  unfold alen at e
  split at e
  · rename_i hu
    simp only [Option.some.injEq] at e
    subst e
    cases hx
    exact ⟨by simp [Builtin.len_, run_underlying hu], .int _ _⟩
  · rename_i hu
    simp only [Option.some.injEq] at e
    subst e
    exact ⟨by simp [Builtin.len_, run_underlying hu], .int _ _⟩
  · rename_i hu
    simp only [Option.some.injEq] at e
    subst e
    cases hx <;> exact ⟨by simp [Builtin.len_, run_underlying hu], .int _ _⟩
  · rename_i hu
    simp only [Option.some.injEq] at e
    subst e
    cases hx
    exact ⟨by simp [Builtin.len_, run_underlying hu], .int _ _⟩
  · rename_i r hu
    split at e
    · rename_i es ck hg
      simp only [Option.some.injEq] at e
      subst e
      cases hx with
      | map hL =>
        rename_i L
        obtain ⟨ob', hob', hrel⟩ := i.live _ _ _ hg hL
        cases ob' <;> simp only [ORel] at hrel
        refine ⟨?_, .int _ _⟩
        simp [Builtin.len_, run_underlying hu, getObj, Sem.run, hob', hrel.2.2.1]
    · exact absurd e (by simp)
  · rename_i arr hu
    split at e
    · rename_i n el hu'
      simp only [Option.some.injEq] at e
      subst e
      exact ⟨by simp [Builtin.len_, run_underlying hu, run_underlying hu'], .int _ _⟩
    · exact absurd e (by simp)
  · exact absurd e (by simp)

end
end Go.Ev
