/- The concrete evaluator, part X: summaries of functions whose results are holes, or rows of holes. -/
import Derived.Test.YtakhkpgkbbcnhaaGreatDoorEvW
import Derived.Below
import Derived.Laws.AppendOwn
namespace Go.Ev
open Go Go.RowKit
variable [Globs] [Holes]

theorem Inv.below {F : Facts} {ρ : Emb} {h : Heap} {w w' : World} (i : Inv F ρ h w) (hb : Below w.heap.size w w') : Inv F ρ h w' := by
  refine ⟨hb.tape.trans i.tape, hb.os.trans i.os, hb.output.trans i.output, i.base, i.glob, fun k o hk => ?_, fun b o L hb' hL => ?_, i.inj, i.apart, fun b L hL => ⟨(i.dom b L hL).1, Nat.lt_of_lt_of_le (i.dom b L hL).2 hb.size⟩, i.named, i.unb⟩
  · have h1 := i.facts k o hk
    rw [hb.block k (Array.getElem?_eq_some_iff.1 h1).1]
    exact h1
  · obtain ⟨o', ho', hr⟩ := i.live b o L hb' hL
    exact ⟨o', by rw [hb.block _ (i.dom b L hL).2]; exact ho', hr⟩

/-- What was in the world from the first. -/
def Base (w : World) : Prop := ∀ k o, Holes.at_ k o → w.heap[k]? = some o
theorem Inv.isBase {F : Facts} {ρ : Emb} {h : Heap} {w : World} (i : Inv F ρ h w) : Base w := fun k o hk => i.facts k o (i.base k o hk)

def orS (S T : SumsR) : SumsR := fun f args h =>
  match S f args h with
  | some x => some x
  | none => T f args h
theorem orS_ok {P : Program} {S T : SumsR} (hS : SumsOk P (plainS S)) (hT : SumsOk P (plainS T)) : SumsOk P (plainS (orS S T)) := by
  intro f args h outs e F ρ w args' R i hargs hR
  unfold plainS orS at e
  cases hs : S f args.toList h with
  | some x =>
    rw [hs] at e
    refine hS f args h outs ?_ F ρ w args' R i hargs hR
    unfold plainS
    rw [hs]
    exact e
  | none =>
    rw [hs] at e
    exact hT f args h outs e F ρ w args' R i hargs hR

/-- A function that hands back one known value, or a hole. -/
noncomputable def oneS (f0 : FuncId) (test : List Value → Bool) (v : Value) : SumsR := fun f args h => gB (Nat.beq f f0) (gB (test args) (some [.val v h]))
def OneOk (P : Program) (f0 : FuncId) (test : List Value → Bool) (v : Value) : Prop :=
  ∀ (ρ : Emb) (args args' : Array Value) (w : World), Base w → VsRel ρ args args' → test args.toList = true → CallsIn Fence.wide 0 P f0 args' w (retPost fun v' w' => Below w.heap.size w w' ∧ ∀ σ : Emb, VRel σ v v')
omit [Globs] in
omit [Holes] in
theorem retPost_mono {R R' : Value → World → Prop} (h : ∀ v w, R v w → R' v w) (e : Ending) (w : World) : retPost R e w → retPost R' e w := by
  cases e <;> first
    | exact h _ _
    | exact id
theorem oneS_ok {P : Program} {f0 : FuncId} {test : List Value → Bool} {v : Value} (hc : OneOk P f0 test v) : SumsOk P (plainS (oneS f0 test v)) := by
  intro f args h outs e F ρ w args' R i hargs hR
  unfold plainS at e
  split at e
  rotate_left
  · exact absurd e (by simp)
  rename_i os hs
  obtain rfl := Option.some.inj e
  obtain ⟨h1, hs1⟩ := gB_some hs
  obtain ⟨h2, hs2⟩ := gB_some hs1
  obtain rfl := Nat.eq_of_beq_eq_true h1
  obtain rfl := Option.some.inj hs2
  refine (hc ρ args args' w i.isBase hargs h2).mono fun e w' => retPost_mono (fun v' w' hv => ?_) e w'
  exact hR _ _ (List.mem_singleton.2 rfl) ρ v' w' (Emb.le_refl _) (i.below hv.1) (hv.2 ρ)

/-- A function that computes a plain value out of plain values. -/
def fnS (f0 : FuncId) (g : List Value → Option Value) : SumsR := fun f args h => gB (Nat.beq f f0) (gB (args.all (flat 3)) (oB (g args) fun v => gB (flat 3 v) (some [.val v h])))
def FnOk (P : Program) (f0 : FuncId) (g : List Value → Option Value) : Prop :=
  ∀ (args : List Value) (v : Value) (w : World), g args = some v → CallsIn Fence.wide 0 P f0 ⟨args⟩ w (retPost fun v' w' => Below w.heap.size w w' ∧ v' = v)
theorem fnS_ok {P : Program} {f0 : FuncId} {g : List Value → Option Value} (hc : FnOk P f0 g) : SumsOk P (plainS (fnS f0 g)) := by
  intro f args h outs e F ρ w args' R i hargs hR
  unfold plainS at e
  split at e
  rotate_left
  · exact absurd e (by simp)
  rename_i os hs
  obtain rfl := Option.some.inj e
  obtain ⟨h1, hs1⟩ := gB_some hs
  obtain ⟨h2, hs2⟩ := gB_some hs1
  obtain ⟨v, hv, hs3⟩ := oB_some hs2
  obtain ⟨hfl, hs4⟩ := gB_some hs3
  obtain rfl := Nat.eq_of_beq_eq_true h1
  obtain rfl := Option.some.inj hs4
  have ha : args' = ⟨args.toList⟩ := by
    refine Array.ext (by rw [← hargs.1]) fun j hj hj' => ?_
    have hj2 : j < args.size := by simpa using hj'
    have := hargs.2 j _ _ (Array.getElem?_eq_getElem hj2) (Array.getElem?_eq_getElem hj)
    have hf : flat 3 args[j] = true := List.all_eq_true.1 h2 _ (by simp)
    rw [eq_of_flat 3 _ _ hf this]
  subst ha
  refine (hc args.toList v w hv).mono fun e w' => retPost_mono (fun v' w' hv' => ?_) e w'
  obtain ⟨hb, rfl⟩ := hv'
  exact hR _ _ (List.mem_singleton.2 rfl) ρ _ w' (Emb.le_refl _) (i.below hb) (rel_of_flat 3 _ hfl)

/-- A function that hands back a row of holes: none, or one to so many. -/
noncomputable def rowOut (t : TypeId) (j : Nat) (h : Heap) (k : Nat) : Option OutR :=
  forceN (h.next + 1) fun n1 => tsetR 48 h.t h.next (some (.cells ⟨List.replicate k (.chan (some j))⟩ t (1, 1))) fun tr => some (.val (.slice (some ⟨h.next, 0, none⟩) k k) ⟨n1, tr⟩)
noncomputable def rowOuts (t : TypeId) (j : Nat) (h : Heap) : List Nat → List OutR → Option (List OutR)
  | [], acc => some acc
  | k :: l, acc => oB (rowOut t j h k) fun o => rowOuts t j h l (o :: acc)
noncomputable def rowS (f0 : FuncId) (test : List Value → Bool) (t : TypeId) (j : Nat) (ks : List Nat) : SumsR := fun f args h => gB (Nat.beq f f0) (gB (test args) (rowOuts t j h ks [.val (.slice none 0 0) h]))
def IsRow (t : TypeId) (j : Nat) (ks : List Nat) (B : Nat) (v : Value) (w : World) : Prop :=
  v = .slice none 0 0 ∨ ∃ b k cap cur, k ∈ ks ∧ v = .slice (some ⟨b, 0, none⟩) k cap ∧ B ≤ b ∧ w.heap[b]? = some (.cells cur t (0, 0)) ∧ k ≤ cap ∧ cap ≤ cur.size ∧ ∀ (i : Nat) (x : Value), i < k → cur[i]? = some x → oneCell x = true ∧ Holes.is j x
def RowOk (P : Program) (f0 : FuncId) (test : List Value → Bool) (t : TypeId) (j : Nat) (ks : List Nat) : Prop :=
  ∀ (ρ : Emb) (args args' : Array Value) (w : World), Base w → VsRel ρ args args' → test args.toList = true → CallsIn Fence.wide 0 P f0 args' w (retPost fun v' w' => Below w.heap.size w w' ∧ IsRow t j ks w.heap.size v' w')

omit [Globs] in
omit [Holes] in
theorem rowOuts_mem {t : TypeId} {j : Nat} {h : Heap} : ∀ {l : List Nat} {acc outs : List OutR}, rowOuts t j h l acc = some outs → (∀ o ∈ acc, o ∈ outs) ∧ ∀ k ∈ l, ∃ o, rowOut t j h k = some o ∧ o ∈ outs := by
  intro l
  induction l with
  | nil =>
    intro acc outs e
    obtain rfl := Option.some.inj e
    exact ⟨fun _ h => h, fun k hk => absurd hk (by simp)⟩
  | cons k l ih =>
    intro acc outs e
    obtain ⟨o, ho, e⟩ := oB_some e
    obtain ⟨h1, h2⟩ := ih e
    refine ⟨fun x hx => h1 x (List.mem_cons_of_mem _ hx), fun k' hk' => ?_⟩
    rcases List.mem_cons.1 hk' with rfl | hk'
    · exact ⟨o, ho, h1 o List.mem_cons_self⟩
    · exact h2 k' hk'

theorem rowS_ok {P : Program} {f0 : FuncId} {test : List Value → Bool} {t : TypeId} {j : Nat} {ks : List Nat} (hc : RowOk P f0 test t j ks) : SumsOk P (plainS (rowS f0 test t j ks)) := by
  intro f args h outs e F ρ w args' R i hargs hR
  unfold plainS at e
  split at e
  rotate_left
  · exact absurd e (by simp)
  rename_i os hs
  obtain rfl := Option.some.inj e
  obtain ⟨h1, hs1⟩ := gB_some hs
  obtain ⟨h2, hs2⟩ := gB_some hs1
  obtain rfl := Nat.eq_of_beq_eq_true h1
  obtain ⟨hm1, hm2⟩ := rowOuts_mem hs2
  refine (hc ρ args args' w i.isBase hargs h2).mono fun e w' => retPost_mono (fun v' w' hv => ?_) e w'
  obtain ⟨hb, hrow⟩ := hv
  have i' := i.below hb
  rcases hrow with rfl | ⟨b, k, cap, cur, hk, rfl, hB, hcur, hkc, hcs, hcells⟩
  · exact hR _ _ (List.mem_map.2 ⟨_, hm1 _ (List.mem_singleton.2 rfl), rfl⟩) ρ _ w' (Emb.le_refl _) i' (.nilSlice 0 0)
  obtain ⟨o, ho, hmem⟩ := hm2 k hk
  unfold rowOut at ho
  rw [forceN_eq, tsetR_eq] at ho
  obtain ⟨tr, htr, ho⟩ := oB_some ho
  obtain rfl := Option.some.inj ho
  have hp : h.push (.cells ⟨List.replicate k (.chan (some j))⟩ t (1, 1)) = some ⟨h.next + 1, tr⟩ := by
    unfold Heap.push
    rw [htr]
    rfl
  let L : Loc := ⟨b, 0, cur.size, k, 1, true⟩
  have hlt : b < w'.heap.size := (Array.getElem?_eq_some_iff.1 hcur).1
  refine hR _ _ (List.mem_map.2 ⟨_, hmem, rfl⟩) (ρ.add h.next L) _ w' (Emb.le_add L i.next_none) ?_ ?_
  · refine i.adopt (o' := .cells cur t (0, 0)) (L := L) hp ?_ hb.tape hb.os hb.output hb.size hlt hcur (fun k hk hlt' => hb.block k hlt') ?_ ?_
    · refine ⟨rfl, rfl, by simp [L], rfl, by simp only [L]; omega, fun m v v' hv hv' => ?_, .inl rfl⟩
      have hmk : m < k ∧ v = .chan (some j) := by
        rw [← Array.getElem?_toList] at hv
        simp only [List.getElem?_replicate] at hv
        split at hv
        · rename_i hlt; exact ⟨hlt, (Option.some.inj hv).symm⟩
        · exact absurd hv (by simp)
      obtain ⟨hmk, rfl⟩ := hmk
      simp only [L, Nat.zero_add] at hv'
      obtain ⟨q1, q2⟩ := hcells m v' hmk hv'
      exact .hole j q1 q2
    · intro b3 o3 M hb3 hM
      have := (i.dom _ _ hM).2
      simp only [L]
      omega
    · intro k3 o3 hk3
      have := (Array.getElem?_eq_some_iff.1 (i.facts k3 o3 hk3)).1
      simp only [L]
      omega
  · refine .slice (L := L) (Emb.add_self _ _ _) (.inr ⟨rfl, by simp [L], hkc, by simp only [L]; omega, .inl rfl⟩)
end Go.Ev
