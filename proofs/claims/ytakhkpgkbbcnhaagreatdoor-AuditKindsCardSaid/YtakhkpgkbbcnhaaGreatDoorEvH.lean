/- The concrete evaluator, part H: bytes and strings, comparisons with nil, maps, methods, ranges. -/
import Derived.Test.YtakhkpgkbbcnhaaGreatDoorEvG
namespace Go.Ev
open Go
variable [Globs] [Holes]

section
variable {P : Program} {ρ : Emb}

/-! ### bytes and strings -/
def bytesOf : List Value → ByteArray → Option ByteArray
  | [], s => some s
  | .int .u8 n :: r, s => bytesOf r (s.push (UInt8.ofNat n.toNat))
  | _, _ => none

omit [Globs] in
omit [Holes] in
theorem bytesOf_spec : ∀ (vs : List Value) (s r : ByteArray), bytesOf vs s = some r → ∃ ns : List Int, vs = ns.map (Value.int .u8) ∧ r = ns.foldl (fun r n => r.push (UInt8.ofNat n.toNat)) s := by
  intro vs
  induction vs with
  | nil => intro s r h; simp only [bytesOf, Option.some.injEq] at h; exact ⟨[], rfl, h.symm⟩
  | cons v vs ih =>
    intro s r h
    cases v <;> first | (simp [bytesOf] at h; done) | skip
    rename_i k n
    cases k <;> first | (simp [bytesOf] at h; done) | skip
    obtain ⟨ns, rfl, hr⟩ := ih _ _ (by simpa [bytesOf] using h)
    exact ⟨n :: ns, rfl, hr⟩

omit [Globs] in
theorem All2_ints {ρ : Emb} : ∀ (ns : List Int) (ys : List Value), (∀ (j : Nat) (x y : Value), (ns.map (Value.int .u8))[j]? = some x → ys[j]? = some y → VRel ρ x y) → ys.length = ns.length → ys = ns.map (Value.int .u8) := by
  intro ns
  induction ns with
  | nil => intro ys _ hn; simpa using hn
  | cons n ns ih =>
    intro ys h hn
    cases ys with
    | nil => simp at hn
    | cons y ys =>
      have h0 := h 0 _ y rfl rfl
      cases h0
      rw [ih ys (fun j x z hx hz => h (j + 1) x z (by simpa using hx) (by simpa using hz)) (by simpa using hn)]
      rfl

def astr (h : Heap) : Value → Option Value
  | .slice none _ _ => some (.string .empty)
  | .slice (some a) len _ => match h.cells a len with
    | some cs => match bytesOf cs.toList .empty with
      | some s => some (.string s)
      | none => none
    | none => none
  | _ => none

theorem astr_sound {src dst e : TypeId} (hs : P.underlying src = some (.slice e)) (he : P.underlying e = some (.int .u8)) (hd : P.underlying dst = some .string) {x x' : Value} (hx : VRel ρ x x')
    {F : Facts} {h : Heap} {w : World} (i : Inv F ρ h w) {v : Value} (ev : astr h x = some v) : (convert src dst x').run P w = .ok v w ∧ VRel ρ v v := by
  unfold astr at ev
  split at ev
  · simp only [Option.some.injEq] at ev
    subst ev
    cases hx
    exact ⟨by rw [run_convert_bytes_string w _ _ _ _ _ _ hs he hd]; rfl, .string _⟩
  · rename_i a len cap
    split at ev
    · rename_i cs hc
      split at ev
      · rename_i s hb
        simp only [Option.some.injEq] at ev
        subst ev
        refine ⟨?_, .string _⟩
        obtain ⟨ns, hns, rfl⟩ := bytesOf_spec _ _ _ hb
        cases hx with
        | @slice b o _ _ o' cap' L hL hsr =>
          rw [run_convert_bytes_string w _ _ _ _ _ _ hs he hd]
          by_cases h0 : len = 0
          · subst h0
            obtain ⟨cs', hr, hsz, hg⟩ := i.cells (a' := ⟨L.blk, L.off + o, none⟩) ⟨L, hL, rfl, rfl⟩ hc
            have : ns = [] := by
              have := congrArg List.length hns
              simp [hsz] at this
              simpa using this.symm
            subst this
            exact run_bytesToString w _ 0 cap' [] (by simp [loadCells, loadCellsFrom])
          · have ho' := hsr.off_of_pos (.inl (by omega))
            subst ho'
            obtain ⟨cs', hr, hsz, hg⟩ := i.cells (a' := ⟨L.blk, L.off + o, none⟩) ⟨L, hL, rfl, rfl⟩ hc
            have hlen : ns.length = len := by
              have := congrArg List.length hns
              simp [hsz] at this
              exact this.symm
            have hcs' : cs'.toList = ns.map (Value.int .u8) := by
              refine All2_ints (ρ := ρ) ns _ ?_ ?_
              · have := hr.list.2
                rw [hns] at this
                exact this
              · have h1 := hr.1
                have h2 := congrArg List.length hns
                simp at h2 ⊢
                omega
            refine run_bytesToString w _ len cap' ns ?_
            have := run_loadCells_list (P := P) (w := w) ⟨L.blk, L.off + o, none⟩ cs'.toList (fun j u hj => hg j u (by simpa using hj))
            rw [hcs'] at this
            simpa [hlen] using this
      · exact absurd ev (by simp)
    · exact absurd ev (by simp)
  · exact absurd ev (by simp)

def abytes (e : TypeId) (s : ByteArray) (h : Heap) : Option (Value × Heap) :=
  match h.push (.cells (byteCells s).toArray e (1, 1)) with
  | some h' => some (.slice (some ⟨h.next, 0, none⟩) s.size s.size, h')
  | none => none

theorem abytes_sound {src dst e : TypeId} {u : TypeDesc} (hs : P.underlying src = some u) (hd : P.underlying dst = some (.slice e)) (he : P.underlying e = some (.int .u8)) (s : ByteArray) :
    SimF P VRel ρ (abytes e s) (convert src dst (.string s)) := by
  intro F h w r h₁ i ha
  unfold abytes at ha
  split at ha
  · rename_i h' hp
    simp only [Option.some.injEq, Prod.mk.injEq] at ha
    obtain ⟨rfl, rfl⟩ := ha
    have hrun := Lib.run_convert_string_bytes w src dst e s hs hd he
    have hsz : (Lib.bytesCells w e s).size = grownCap w s.size 0 e := by
      have := grownCap_ge w s.size 0 e
      have h2 : s.data.size = s.size := rfl
      simp [Lib.bytesCells, h2]; omega
    obtain ⟨L, hL⟩ : ∃ L : Loc, L = ⟨w.heap.size, 0, grownCap w s.size 0 e, s.size, 1, true⟩ := ⟨_, rfl⟩
    have hle := Emb.le_add L i.next_none
    refine ⟨ρ.add h.next L, _, _, hrun, hle, ?_, ?_⟩
    · refine i.adopt (o' := .cells (Lib.bytesCells w e s) e ((Lib.bytesCells w e s).size, (Lib.bytesCells w e s).size + 1)) hp ?_ rfl rfl rfl (by rw [Lib.bytesWorld_size]; omega) (by rw [Lib.bytesWorld_size, hL]; exact Nat.lt_succ_self _)
        (by rw [hL]; exact Lib.bytesWorld_at_new w e s) (fun k _ hk => Lib.bytesWorld_at_old w e s k hk) (fun b o₁ M hb hM => by rw [hL]; exact Nat.ne_of_lt (i.dom _ _ hM).2)
        (fun k o₁ hk => by rw [hL]; exact Nat.ne_of_lt (Array.getElem?_eq_some_iff.1 (i.facts k o₁ hk)).1)
      subst hL
      have hge := grownCap_ge w s.size 0 e
      refine ⟨rfl, rfl, by simp [byteCells_length], hsz.symm, by simpa using hge, fun j v v' hv hv' => ?_, .inr (by rw [hsz]; exact Nat.le_refl _)⟩
      · have hj : j < s.size := by
          have := (Array.getElem?_eq_some_iff.1 hv).1
          simpa [byteCells_length] using this
        have hj' : j < s.data.size := hj
        simp only [Nat.zero_add] at hv'
        have e1 : (Lib.bytesCells w e s)[j]? = some (.int .u8 (s.data[j]'hj').toNat) := by
          unfold Lib.bytesCells
          rw [Array.getElem?_append_left (by simp; exact hj')]
          simp
          exact ⟨_, Array.getElem?_eq_getElem hj', rfl⟩
        rw [e1] at hv'
        cases hv'
        have e2 : (byteCells s).toArray[j]? = some (.int .u8 (s.data[j]'hj').toNat) := by
          simp [byteCells]
          exact ⟨_, Array.getElem?_eq_getElem hj', rfl⟩
        rw [e2] at hv
        cases hv
        exact .int _ _
    · have hb : (ρ.add h.next L) h.next = some L := Emb.add_self _ _ _
      have := VRel.slice (ρ := ρ.add h.next L) (b := h.next) (o := 0) (len := s.size) (cap := s.size) (o' := 0) (cap' := grownCap w s.size 0 e) (L := L) hb (.inr ?_)
      · rw [hL] at this ⊢; exact this
      · subst hL
        exact ⟨rfl, by simp, grownCap_ge _ _ _ _, by simp, .inl rfl⟩
  · exact absurd ha (by simp)

/-! ### comparisons with nil -/
/-- Is one of them nil, and the other of the same kind? -/
def eqNil (d : TypeDesc) (x y : Value) : Option Bool :=
  match d, x, y with
  | .pointer _, .pointer none, .pointer b => some b.isNone
  | .pointer _, .pointer (some _), .pointer none => some false
  | .slice _, .slice none _ _, .slice b _ _ => some b.isNone
  | .slice _, .slice (some _) _ _, .slice none _ _ => some false
  | .map _ _, .map none, .map b => some b.isNone
  | .map _ _, .map (some _), .map none => some false
  | .func _ _ _, .nilFunc, .func _ _ _ => some false
  | .func _ _ _, .func _ _ _, .nilFunc => some false
  | .interface _, .nilIface, .iface _ _ => some false
  | .interface _, .iface _ _, .nilIface => some false
  | _, _, _ => none

omit [Globs] in
theorem eqNil_rel {d : TypeDesc} {x y x' y' : Value} (hx : VRel ρ x x') (hy : VRel ρ y y') {b : Bool} (h : eqNil d x y = some b) : eqNil d x' y' = some b := by
  unfold eqNil at h
  split at h
  all_goals try (cases h; done)
  all_goals (cases hx; cases hy)
  all_goals (simp only [Option.some.injEq] at h; subst h; rfl)

omit [Globs] in
omit [Holes] in
theorem eqNil_runIn (n : Nat) {t : TypeId} {d : TypeDesc} (hd : P.underlying t = some d) {x y : Value} {b : Bool} (h : eqNil d x y = some b) (w : World) : (Op.equalIn (n + 1) t x y).run P w = .ok b w := by
  unfold eqNil at h
  split at h
  all_goals try (cases h; done)
  all_goals (simp only [Option.some.injEq] at h; subst h)
  all_goals (simp only [Op.equalIn, Sem.run_bind, run_underlying hd, Result.andThen_ok])
  all_goals first
    | rfl
    | (rename_i b; cases b <;> rfl)

omit [Globs] in
omit [Holes] in
theorem eqNil_run {t : TypeId} {d : TypeDesc} (hd : P.underlying t = some d) {x y : Value} {b : Bool} (h : eqNil d x y = some b) (w : World) : (Op.equal t x y).run P w = .ok b w :=
  eqNil_runIn 9999 hd h w

omit [Globs] in
omit [Holes] in
theorem eqNil_guard {d : TypeDesc} {x y : Value} {b : Bool} (h : eqNil d x y = some b) (op : BinOp) (t : TypeId) (ox oy : Operand) (w : World) : (eqGuard op t ox oy x y).run P w = .ok () w := by
  unfold eqNil at h
  split at h
  all_goals try (cases h; done)
  all_goals (unfold eqGuard; cases op <;> rfl)

omit [Globs] in
omit [Holes] in
theorem eqNil_binOp {t : TypeId} {d : TypeDesc} (hd : P.underlying t = some d) {x y : Value} {b : Bool} (h : eqNil d x y = some b) (w : World) :
    (binOp .eql t x y).run P w = .ok (.bool b) w ∧ (binOp .neq t x y).run P w = .ok (.bool (!b)) w := by
  have hr := eqNil_run hd h w
  have : (binOp .eql t x y) = (do pure (.bool (← Op.equal t x y))) ∧ (binOp .neq t x y) = (do pure (.bool (!(← Op.equal t x y)))) := by
    unfold eqNil at h
    split at h
    all_goals try (cases h; done)
    all_goals exact ⟨rfl, rfl⟩
  rw [this.1, this.2]
  constructor
  · simp [hr]
  · simp [hr]


/-- The run-time's mark on a literal's row. -/
def isU8 (P : Program) (e : TypeId) : Bool :=
  match P.underlying e with
  | some (.int .u8) => true
  | _ => false
def amark (P : Program) (src dst : TypeId) (x : Value) (h : Heap) : Option (Value × Heap) :=
  match P.underlying src, x with
  | some (.slice e), .slice (some a) l c => if (Nat.beq src dst && isU8 P e) = true then
      (match h.get a.block with
      | some (.cells cs t f) => if Nat.beq f.1 2 then none else (match h.set a.block (some (.cells cs t f)) with
        | some h' => some (.slice (some a) l c, h')
        | none => none)
      | _ => none)
    else none
  | _, _ => none
theorem amark_sound {src dst : TypeId} {x x' : Value} (hx : VRel ρ x x') : SimF P VRel ρ (amark P src dst x) (convert src dst x') := by
  intro F h w r h₁ i ha
  unfold amark at ha
  split at ha
  rotate_left
  · exact absurd ha (by simp)
  rename_i e a l c hs
  split at ha
  rotate_left
  · exact absurd ha (by simp)
  rename_i hc
  simp only [Bool.and_eq_true] at hc
  obtain ⟨hsd, h8⟩ := hc
  obtain rfl := Nat.eq_of_beq_eq_true hsd
  have he : P.underlying e = some (.int .u8) := by
    unfold isU8 at h8
    split at h8
    · assumption
    · exact absurd h8 (by simp)
  split at ha
  rotate_left
  · exact absurd ha (by simp)
  rename_i cs t f hg
  split at ha
  · exact absurd ha (by simp)
  rename_i hro
  split at ha
  rotate_left
  · exact absurd ha (by simp)
  rename_i h' hset
  simp only [Option.some.injEq, Prod.mk.injEq] at ha
  obtain ⟨rfl, rfl⟩ := ha
  cases hx with
  | @slice b o _ _ o' cap' L hL hsr =>
    obtain ⟨ob, hob, hr⟩ := i.live _ _ _ hg hL
    cases ob <;> simp only [ORel] at hr
    rename_i c' t' fr'
    obtain ⟨r1, r2, r3, r4, r5, r6, r7⟩ := hr
    have hsh : w.shape? L.blk = some (t', c'.size) := by
      unfold World.shape?
      rw [hob]
    obtain ⟨fr2, hfr2, hw2⟩ : ∃ fr2 : Nat × Nat, (fr2.1 = fr2.2 ∨ L.tot ≤ fr2.1) ∧ (w.freeze ⟨L.blk, c'.size, none⟩ 1).heap[L.blk]? = some (.cells c' t' fr2) := by
      obtain ⟨lo, hi⟩ := fr'
      refine ⟨if lo == hi then (c'.size, c'.size + 1) else (min lo c'.size, max hi (c'.size + 1)), ?_, ?_⟩
      · by_cases hlh : lo = hi
        · simp only [hlh, beq_self_eq_true, if_true]; exact .inr (by omega)
        · rw [if_neg (by simpa using hlh)]
          rcases r7 with r7 | r7
          · exact absurd r7 hlh
          · simp only at r7; exact .inr (by simp only; omega)
      · unfold World.freeze
        rw [if_neg (by decide)]
        simp only [Array.getElem?_modify, if_true, hob, Option.map_some]
    have hrun : (convert src src (.slice (some ⟨L.blk, o', none⟩) l cap')).run P w = .ok (.slice (some ⟨L.blk, o', none⟩) l cap') (w.freeze ⟨L.blk, c'.size, none⟩ 1) := by
      simp [convert, run_underlying hs, run_underlying he, markStringish, hsh]
    refine ⟨ρ, _, _, hrun, Emb.le_refl _, ?_, .slice hL hsr⟩
    refine i.turn (o' := .cells c' t' fr2) hg (by simpa only [roObj, Bool.not_eq_true] using hro) hset hL ⟨r1, r2, r3, r4, r5, r6, hfr2⟩ ?_ ?_ ?_ ?_ hw2 ?_
    · unfold World.freeze; rw [if_neg (by decide)]
    · unfold World.freeze; rw [if_neg (by decide)]
    · unfold World.freeze; rw [if_neg (by decide)]
    · unfold World.freeze; rw [if_neg (by decide)]; simp
    · intro k hk
      unfold World.freeze
      rw [if_neg (by decide)]
      simp only [Array.getElem?_modify, if_neg (fun e => hk e.symm : ¬ L.blk = k)]

end
end Go.Ev
