/- The concrete evaluator, part P: maps with plain keys: lookup, update, delete; the entry of a step. -/
import Derived.Test.YtakhkpgkbbcnhaaGreatDoorEvL
import Derived.Laws.Entries
namespace Go.Ev
open Go
variable [Globs] [Holes]

def okB {α : Type} (x : Option α) : Bool :=
  match x with
  | some _ => true
  | none => false
/-- The entries of a map. -/
def aents (x : Value) (h : Heap) : Option (Array MapEntry) :=
  match x with
  | .map none => some #[]
  | .map (some r) => match h.get r with
    | some (.map es _) => some es
    | _ => none
  | _ => none
def afind (P : Program) (kt : TypeId) (k : Value) (es : Array MapEntry) : Option (Option (Nat × Value)) :=
  match P.underlying kt with
  | some d => Instr.findNow d k es.toList 0
  | none => none
def azero (P : Program) (et : TypeId) : Option Value :=
  match prun P (zeroValue et) with
  | some z => if flat 3 z then some z else none
  | none => none
def lookV (P : Program) (et : TypeId) (r : Option (Nat × Value)) : Option (Value × Bool) :=
  match r with
  | some (_, v) => some (v, true)
  | none => match azero P et with
    | some z => some (z, false)
    | none => none
def lookOk (ok : Bool) (p : Value × Bool) : Value := if ok then .tuple #[p.1, .bool p.2] else p.1
def alookup (P : Program) (t : TypeId) (x k : Value) (ok : Bool) (h : Heap) : Option Value :=
  match P.underlying t with
  | some (.map kt et) => match aents x h with
    | some es => if okB (prun P (Instr.checkKey es.isEmpty 10000 kt k)) then
        (match afind P kt k es with
        | some r => (lookV P et r).map (lookOk ok)
        | none => none) else none
    | none => none
  | _ => none

section
variable {P : Program} {ρ : Emb} {F : Facts} {h : Heap} {w : World}

def FRel (ρ : Emb) : Option (Nat × Value) → Option (Nat × Value) → Prop
  | none, none => True
  | some (i, v), some (j, w) => i = j ∧ VRel ρ v w
  | _, _ => False
omit [Globs] in
theorem findNow_rel (d : TypeDesc) (k : Value) : ∀ (es es' : List MapEntry) (i : Nat) (r : Option (Nat × Value)), es.length = es'.length → (∀ (j : Nat) (e e' : MapEntry), es[j]? = some e → es'[j]? = some e' → ERel ρ e e') →
    Instr.findNow d k es i = some r → ∃ r', Instr.findNow d k es' i = some r' ∧ FRel ρ r r' := by
  intro es
  induction es with
  | nil =>
    intro es' i r hl _ e
    cases es' with
    | nil => obtain rfl := Option.some.inj e; exact ⟨none, rfl, trivial⟩
    | cons a l => simp at hl
  | cons e es ih =>
    intro es' i r hl h hr
    cases es' with
    | nil => simp at hl
    | cons e' es' =>
      obtain ⟨h1, h2, h3, h4⟩ := h 0 e e' rfl rfl
      have hih := ih es' (i + 1) r (by simpa using hl) (fun j a b ha hb => h (j + 1) a b (by simpa using ha) (by simpa using hb))
      simp only [Instr.findNow, ← h1] at hr ⊢
      cases hs : Instr.sameNow d k e.key with
      | none => rw [hs] at hr; exact absurd hr (by simp)
      | some b =>
        rw [hs] at hr
        cases b with
        | true => obtain rfl := Option.some.inj hr; exact ⟨_, rfl, rfl, h4⟩
        | false => exact hih hr

def EsRel (ρ : Emb) (es es' : Array MapEntry) : Prop := es.size = es'.size ∧ ∀ (i : Nat) (e e' : MapEntry), es[i]? = some e → es'[i]? = some e' → ERel ρ e e'
omit [Globs] in
theorem EsRel.list {es es' : Array MapEntry} (h : EsRel ρ es es') : es.toList.length = es'.toList.length ∧ ∀ (j : Nat) (e e' : MapEntry), es.toList[j]? = some e → es'.toList[j]? = some e' → ERel ρ e e' :=
  ⟨by simpa using h.1, fun j e e' he he' => h.2 j e e' (by simpa using he) (by simpa using he')⟩
omit [Globs] in
theorem EsRel.isEmpty {es es' : Array MapEntry} (h : EsRel ρ es es') : es'.isEmpty = es.isEmpty := by simp [Array.isEmpty, h.1]
omit [Globs] in
theorem EsRel.get {es es' : Array MapEntry} (h : EsRel ρ es es') (i : Nat) : (es[i]? = none ∧ es'[i]? = none) ∨ ∃ e e', es[i]? = some e ∧ es'[i]? = some e' ∧ ERel ρ e e' := by
  by_cases hi : i < es.size
  · have hi' : i < es'.size := by rw [← h.1]; exact hi
    exact .inr ⟨es[i], es'[i], Array.getElem?_eq_getElem hi, Array.getElem?_eq_getElem hi', h.2 i _ _ (Array.getElem?_eq_getElem hi) (Array.getElem?_eq_getElem hi')⟩
  · exact .inl ⟨Array.getElem?_eq_none (by omega), Array.getElem?_eq_none (by rw [← h.1]; omega)⟩

omit [Globs] in
theorem afind_run {kt : TypeId} {k : Value} {es es' : Array MapEntry} (hes : EsRel ρ es es') {r : Option (Nat × Value)} (e : afind P kt k es = some r) :
    ∃ r', (∀ w, (Instr.findKey kt k es'.toList).run P w = .ok r' w) ∧ FRel ρ r r' := by
  unfold afind at e
  split at e
  · rename_i d hd
    obtain ⟨r', e', hR⟩ := findNow_rel d k es.toList es'.toList 0 r hes.list.1 hes.list.2 e
    exact ⟨r', fun w => by simp [Instr.findKey, run_underlying hd, e'], hR⟩
  · exact absurd e (by simp)

omit [Globs] in
theorem azero_run {et : TypeId} {z : Value} (e : azero P et = some z) : (∀ w, (zeroValue et).run P w = .ok z w) ∧ VRel ρ z z := by
  unfold azero at e
  split at e
  · rename_i z' hp
    split at e
    · rename_i hf
      obtain rfl := Option.some.inj e
      exact ⟨prun_run P _ _ hp, rel_of_flat 3 _ hf⟩
    · exact absurd e (by simp)
  · exact absurd e (by simp)

omit [Globs] in
omit [Holes] in
theorem okB_run {b : Bool} {n : Nat} {kt : TypeId} {k : Value} (e : okB (prun P (Instr.checkKey b n kt k)) = true) (w : World) : (Instr.checkKey b n kt k).run P w = .ok () w := by
  unfold okB at e
  split at e
  · rename_i u hp
    exact prun_run P _ _ hp w
  · exact absurd e (by simp)

theorem alookup_sound {t : TypeId} {x x' k : Value} {ok : Bool} (hx : VRel ρ x x') {v : Value} (i : Inv F ρ h w) (e : alookup P t x k ok h = some v) :
    ∃ v', (Instr.lookup t x' k ok).run P w = .ok v' w ∧ VRel ρ v v' := by
  unfold alookup at e
  split at e
  rotate_left
  · exact absurd e (by simp)
  rename_i kt et hu
  split at e
  rotate_left
  · exact absurd e (by simp)
  rename_i es hes
  split at e
  rotate_left
  · exact absurd e (by simp)
  rename_i hck
  split at e
  rotate_left
  · exact absurd e (by simp)
  rename_i r hr
  rw [Option.map_eq_some_iff] at e
  obtain ⟨p, hp, rfl⟩ := e
  have fin : ∀ (es' : Array MapEntry), EsRel ρ es es' → ∃ (r' : Option (Nat × Value)) (z v' : Value), (∀ w, (Instr.checkKey es'.isEmpty 10000 kt k).run P w = .ok () w) ∧ (∀ w, (Instr.findKey kt k es'.toList).run P w = .ok r' w) ∧
      ((∃ j u, r' = some (j, u) ∧ v' = lookOk ok (u, true)) ∨ (r' = none ∧ (∀ w, (zeroValue et).run P w = .ok z w) ∧ v' = lookOk ok (z, false))) ∧ VRel ρ (lookOk ok p) v' := by
    intro es' hE
    obtain ⟨r', hf, hR⟩ := afind_run hE hr
    have hck' : ∀ w, (Instr.checkKey es'.isEmpty 10000 kt k).run P w = .ok () w := fun w => by rw [hE.isEmpty]; exact okB_run hck w
    have hv : ∀ (a b : Value) (c : Bool), VRel ρ a b → VRel ρ (lookOk ok (a, c)) (lookOk ok (b, c)) := by
      intro a b c hab
      unfold lookOk
      split
      · refine .tuple rfl fun j x y hx hy => ?_
        match j with
        | 0 => simp at hx hy; subst hx; subst hy; exact hab
        | 1 => simp at hx hy; subst hx; subst hy; exact .bool c
        | j + 2 => simp at hx
      · exact hab
    cases r with
    | none =>
      cases r' with
      | some _ => exact hR.elim
      | none =>
        simp only [lookV] at hp
        split at hp
        · rename_i z hz
          obtain rfl := Option.some.inj hp
          obtain ⟨h1, h2⟩ := azero_run (ρ := ρ) hz
          exact ⟨none, z, _, hck', hf, .inr ⟨rfl, h1, rfl⟩, hv _ _ _ h2⟩
        · exact absurd hp (by simp)
    | some a =>
      cases r' with
      | none => exact hR.elim
      | some b =>
        obtain ⟨i1, v1⟩ := a
        obtain ⟨i2, v2⟩ := b
        simp only [lookV] at hp
        obtain rfl := Option.some.inj hp
        exact ⟨some (i2, v2), v2, _, hck', hf, .inl ⟨i2, v2, rfl, rfl⟩, hv _ _ _ hR.2⟩
  unfold aents at hes
  split at hes
  · obtain rfl := Option.some.inj hes
    cases hx
    obtain ⟨r', z, v', h1, h2, h3, h4⟩ := fin #[] ⟨rfl, by simp⟩
    refine ⟨v', ?_, h4⟩
    have h1' : (Instr.checkKey true 10000 kt k).run P w = .ok () w := by simpa using h1 w
    have h2' : (Instr.findKey kt k []).run P w = .ok r' w := by simpa using h2 w
    rcases h3 with ⟨j, u, rfl, rfl⟩ | ⟨rfl, hz, rfl⟩
    · simp [Instr.lookup, run_underlying hu, h1', h2', lookOk]
    · simp [Instr.lookup, run_underlying hu, h1', h2', hz, lookOk]
  · rename_i b
    split at hes
    · rename_i es0 ck hg
      obtain rfl := Option.some.inj hes
      cases hx with
      | @map _ L hL =>
        obtain ⟨ob', hob', hrel⟩ := i.live _ _ _ hg hL
        cases ob' <;> simp only [ORel] at hrel
        rename_i es' ck'
        obtain ⟨r', z, v', h1, h2, h3, h4⟩ := fin es' ⟨hrel.2.2.1, hrel.2.2.2⟩
        refine ⟨v', ?_, h4⟩
        rcases h3 with ⟨j, u, rfl, rfl⟩ | ⟨rfl, hz, rfl⟩
        · simp [Instr.lookup, run_underlying hu, getObj, Sem.run, hob', h1 w, h2 w, lookOk]
        · simp [Instr.lookup, run_underlying hu, getObj, Sem.run, hob', h1 w, h2 w, hz, lookOk]
    · exact absurd hes (by simp)
  · exact absurd hes (by simp)

def aupdate (P : Program) (t : TypeId) (m k v : Value) (h : Heap) : Option Heap :=
  match P.underlying t, m with
  | some (.map kt _), .map (some r) => match h.get r with
    | some (.map es clock) => if flat 3 k && okB (prun P (Instr.checkKey false 10000 kt k)) then
        (match afind P kt k es with
        | some (some (i, _)) => (match es[i]? with
          | some e => if Instr.sameBits 10000 e.key k then h.set r (some (.map (es.modify i fun e => { e with key := k, val := v }) clock)) else none
          | none => none)
        | some none => h.set r (some (.map (es.push { key := k, val := v, born := clock }) (clock + 1)))
        | none => none) else none
    | _ => none
  | _, _ => none

theorem turn_map (i : Inv F ρ h w) {r : Nat} {L : Loc} {o o1 o1' : Obj} {h1 : Heap} (hg : h.get r = some o) (hro : roObj o = false) (hL : ρ r = some L) (e : h.set r (some o1) = some h1) (hR : ORel ρ L o1 o1') :
    Inv F ρ h1 { w with heap := w.heap.setIfInBounds L.blk o1' } := by
  have hlt : L.blk < w.heap.size := (i.dom _ _ hL).2
  refine i.turn hg hro e hL hR rfl rfl rfl (by simp) (by simp [hlt]) fun k hk => ?_
  simp only [Array.getElem?_setIfInBounds]
  rw [if_neg (fun x => hk x.symm)]

theorem aupdate_sound {t : TypeId} {m m' k k' v v' : Value} (hm : VRel ρ m m') (hk : VRel ρ k k') (hv : VRel ρ v v') {h1 : Heap} (i : Inv F ρ h w) (e : aupdate P t m k v h = some h1) :
    ∃ w1, (Instr.mapUpdate t m' k' v').run P w = .ok () w1 ∧ Inv F ρ h1 w1 := by
  unfold aupdate at e
  split at e
  rotate_left
  · exact absurd e (by simp)
  rename_i kt et r hu
  split at e
  rotate_left
  · exact absurd e (by simp)
  rename_i es clock hg
  split at e
  rotate_left
  · exact absurd e (by simp)
  rename_i hc
  simp only [Bool.and_eq_true] at hc
  obtain ⟨hfl, hck⟩ := hc
  obtain rfl := eq_of_flat 3 _ _ hfl hk
  cases hm with
  | @map _ L hL =>
    obtain ⟨ob', hob', hrel⟩ := i.live _ _ _ hg hL
    cases ob' <;> simp only [ORel] at hrel
    rename_i es' ck'
    obtain ⟨h0, rfl, hsz, hel⟩ := hrel
    have hE : EsRel ρ es es' := ⟨hsz, hel⟩
    have hck' := okB_run hck w
    split at e
    · rename_i j u hf
      split at e
      rotate_left
      · exact absurd e (by simp)
      rename_i en hen
      split at e
      rotate_left
      · exact absurd e (by simp)
      rename_i hsame
      obtain ⟨r', hfr, hR⟩ := afind_run hE hf
      cases r' with
      | none => exact hR.elim
      | some q =>
        obtain ⟨j', u'⟩ := q
        obtain ⟨rfl, _⟩ := hR
        rcases hE.get j with ⟨hn, _⟩ | ⟨e1, e1', he1, he1', hee⟩
        · rw [hn] at hen; exact absurd hen (by simp)
        rw [he1] at hen
        obtain rfl := Option.some.inj hen
        have hkey : e1'.key = e1.key := hee.1.symm
        refine ⟨{ w with heap := w.heap.setIfInBounds L.blk (.map (es'.modify j fun e => { e with key := k', val := v' }) clock) }, ?_, ?_⟩
        · simp [Instr.mapUpdate, run_underlying hu, getObj, setObj, Sem.run, hob', hck', hfr w, Instr.keyThatStays, he1', hkey, hsame]
        · refine turn_map i hg rfl hL e ⟨h0, rfl, by simp [hsz], fun n a b ha hb => ?_⟩
          rw [Array.getElem?_modify] at ha hb
          split at ha
          · rename_i hjn
            rw [if_pos hjn] at hb
            subst hjn
            rw [he1] at ha
            rw [he1'] at hb
            simp at ha hb
            subst ha; subst hb
            exact ⟨rfl, hfl, hee.2.2.1, hv⟩
          · rename_i hjn
            rw [if_neg hjn] at hb
            exact hel n a b ha hb
    · rename_i hf
      obtain ⟨r', hfr, hR⟩ := afind_run hE hf
      cases r' with
      | some q => exact hR.elim
      | none =>
        refine ⟨{ w with heap := w.heap.setIfInBounds L.blk (.map (es'.push { key := k', val := v', born := clock }) (clock + 1)) }, ?_, ?_⟩
        · simp [Instr.mapUpdate, run_underlying hu, getObj, setObj, Sem.run, hob', hck', hfr w]
        · refine turn_map i hg rfl hL e ⟨h0, rfl, by simp [hsz], fun n a b ha hb => ?_⟩
          rw [Array.getElem?_push] at ha hb
          rw [← hsz] at hb
          split at ha
          · rename_i hn
            rw [if_pos hn] at hb
            simp at ha hb
            subst ha; subst hb
            exact ⟨rfl, hfl, rfl, hv⟩
          · rename_i hn
            rw [if_neg hn] at hb
            exact hel n a b ha hb
    · exact absurd e (by simp)

/-- What the step of a range over a map stands at. -/
def aentry (v : Value) (h : Heap) : Option Value :=
  match v with
  | .pointer (some ⟨r, 0, none⟩) => match h.get r with
    | some (.mapIter (some m) _ seen stepped) => match h.get m with
      | some (.map es clock) => if Nat.beq clock stepped then
          (match seen.back? with
          | some stamp => match es.toList.find? (·.born == stamp) with
            | some e => some (.tuple #[e.key, e.val])
            | none => none
          | none => none) else none
      | _ => none
    | _ => none
  | _ => none
omit [Globs] in
theorem find_rel (stamp : Nat) : ∀ (es es' : List MapEntry) (e : MapEntry), es.length = es'.length → (∀ (j : Nat) (e e' : MapEntry), es[j]? = some e → es'[j]? = some e' → ERel ρ e e') → es.find? (·.born == stamp) = some e →
    ∃ e', es'.find? (·.born == stamp) = some e' ∧ ERel ρ e e' := by
  intro es
  induction es with
  | nil => intro es' e _ _ h; simp at h
  | cons a es ih =>
    intro es' e hl h he
    cases es' with
    | nil => simp at hl
    | cons a' es' =>
      have h0 := h 0 a a' rfl rfl
      have hb : a'.born = a.born := h0.2.2.1.symm
      rw [List.find?_cons] at he
      rw [List.find?_cons, hb]
      split at he
      · obtain rfl := Option.some.inj he
        exact ⟨a', rfl, h0⟩
      · exact ih es' e (by simpa using hl) (fun j x y hx hy => h (j + 1) x y (by simpa using hx) (by simpa using hy)) he
theorem aentry_sound {x x' : Value} (hx : VRel ρ x x') {v : Value} (i : Inv F ρ h w) (e : aentry x h = some v) : ∃ v', (Instr.entry x').run P w = .ok v' w ∧ VRel ρ v v' := by
  unfold aentry at e
  split at e
  rotate_left
  · exact absurd e (by simp)
  rename_i r
  split at e
  rotate_left
  · exact absurd e (by simp)
  rename_i m since seen stepped hg
  split at e
  rotate_left
  · exact absurd e (by simp)
  rename_i es clock hgm
  split at e
  rotate_left
  · exact absurd e (by simp)
  rename_i hcl
  obtain rfl := Nat.eq_of_beq_eq_true hcl
  split at e
  rotate_left
  · exact absurd e (by simp)
  rename_i stamp hst
  split at e
  rotate_left
  · exact absurd e (by simp)
  rename_i en hen
  obtain rfl := Option.some.inj e
  cases hx with
  | @ptr _ _ L hL =>
    obtain ⟨ob, hob, hrel⟩ := i.live _ _ _ hg hL
    cases ob <;> simp only [ORel] at hrel
    rename_i m' since' seen' st'
    obtain ⟨h0, rfl, rfl, rfl, hm⟩ := hrel
    cases m' with
    | none => exact hm.elim
    | some b' =>
      obtain ⟨M, hM, rfl⟩ := hm
      obtain ⟨ob2, hob2, hrel2⟩ := i.live _ _ _ hgm hM
      cases ob2 <;> simp only [ORel] at hrel2
      rename_i es' ck'
      obtain ⟨_, rfl, hsz, hel⟩ := hrel2
      obtain ⟨en', hen', hee⟩ := find_rel (ρ := ρ) stamp es.toList es'.toList en (EsRel.list ⟨hsz, hel⟩).1 (EsRel.list ⟨hsz, hel⟩).2 hen
      have hen2 : es'.find? (·.born == stamp) = some en' := by rw [← Array.find?_toList]; exact hen'
      refine ⟨.tuple #[en'.key, en'.val], ?_, .tuple rfl fun j a b ha hb => ?_⟩
      · simp only [Instr.entry, h0, Nat.add_zero]
        simp [getObj, Sem.run, hob, hob2, hst, hen2]
      · match j with
        | 0 => simp at ha hb; subst ha; subst hb; rw [← hee.1]; exact rel_of_flat 3 _ hee.2.1
        | 1 => simp at ha hb; subst ha; subst hb; exact hee.2.2.2
        | j + 2 => simp at ha

/-- 'delete'. -/
def adelete (P : Program) (t : TypeId) (m k : Value) (h : Heap) : Option Heap :=
  match P.underlying t, m with
  | some (.map kt _), .map (some r) => match h.get r with
    | some (.map es clock) => if flat 3 k && okB (prun P (Instr.checkKey es.isEmpty 10000 kt k)) then
        (match afind P kt k es with
        | some (some (i, _)) => h.set r (some (.map (es.eraseIdxIfInBounds i) clock))
        | some none => h.set r (some (.map es clock))
        | none => none) else none
    | _ => none
  | _, _ => none
theorem adelete_sound {t t2 ty : TypeId} {m m' k k' : Value} (hm : VRel ρ m m') (hk : VRel ρ k k') {h1 : Heap} (i : Inv F ρ h w) (e : adelete P t m k h = some h1) :
    ∃ w1, (Builtin.delete_ #[t, t2] ty #[m', k']).run P w = .ok (.tuple #[]) w1 ∧ Inv F ρ h1 w1 := by
  unfold adelete at e
  split at e
  rotate_left
  · exact absurd e (by simp)
  rename_i kt et r hu
  split at e
  rotate_left
  · exact absurd e (by simp)
  rename_i es clock hg
  split at e
  rotate_left
  · exact absurd e (by simp)
  rename_i hc
  simp only [Bool.and_eq_true] at hc
  obtain ⟨hfl, hck⟩ := hc
  obtain rfl := eq_of_flat 3 _ _ hfl hk
  cases hm with
  | @map _ L hL =>
    obtain ⟨ob', hob', hrel⟩ := i.live _ _ _ hg hL
    cases ob' <;> simp only [ORel] at hrel
    rename_i es' ck'
    obtain ⟨h0, rfl, hsz, hel⟩ := hrel
    have hE : EsRel ρ es es' := ⟨hsz, hel⟩
    have hck' : (Instr.checkKey es'.isEmpty 10000 kt k').run P w = .ok () w := by rw [hE.isEmpty]; exact okB_run hck w
    split at e
    · rename_i j u hf
      obtain ⟨r', hfr, hR⟩ := afind_run hE hf
      cases r' with
      | none => exact hR.elim
      | some q =>
        obtain ⟨j', u'⟩ := q
        obtain ⟨rfl, _⟩ := hR
        refine ⟨{ w with heap := w.heap.setIfInBounds L.blk (.map (es'.eraseIdxIfInBounds j) clock) }, ?_, ?_⟩
        · simp [Builtin.delete_, run_underlying hu, getObj, setObj, Sem.run, hob', hck', hfr w]
        · have hs2 : (es.eraseIdxIfInBounds j).size = (es'.eraseIdxIfInBounds j).size := by
            rw [← Array.length_toList, ← Array.length_toList, Array.toList_eraseIdxIfInBounds, Array.toList_eraseIdxIfInBounds, List.length_eraseIdx, List.length_eraseIdx, hE.list.1]
          refine turn_map i hg rfl hL e ⟨h0, rfl, hs2, fun n a b ha hb => ?_⟩
          rw [← Array.getElem?_toList, Array.toList_eraseIdxIfInBounds, List.getElem?_eraseIdx] at ha hb
          split at ha
          · rename_i hn
            rw [if_pos hn] at hb
            exact hE.list.2 n a b ha hb
          · rename_i hn
            rw [if_neg hn] at hb
            exact hE.list.2 (n + 1) a b ha hb
    · rename_i hf
      obtain ⟨r', hfr, hR⟩ := afind_run hE hf
      cases r' with
      | some q => exact hR.elim
      | none =>
        refine ⟨{ w with heap := w.heap.setIfInBounds L.blk (.map es' clock) }, ?_, turn_map i hg rfl hL e ⟨h0, rfl, hsz, hel⟩⟩
        simp [Builtin.delete_, run_underlying hu, getObj, setObj, Sem.run, hob', hck', hfr w]
    · exact absurd e (by simp)
end
end Go.Ev
