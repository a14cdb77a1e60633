/- loggialaw29.AuditKinds: for every input the call returns true, and the argument reads as it did. Conditions: the listed package variables hold what the program's text lays (the card ties them). -/
import Derived.Test.YtakhkpgkbbcnhaaGreatDoorZDL
import Derived.Test.YtakhkpgkbbcnhaaGreatDoorZDH
import Derived.Test.YtakhkpgkbbcnhaaGreatDoorZDQ
import Derived.Test.YtakhkpgkbbcnhaaGreatDoorZDF2
import Derived.Test.YtakhkpgkbbcnhaaGreatDoorCards
import Derived.Test.YtakhkpgkbbcnhaaGreatDoorTie
import Derived.SevenTiedAt
import Derived.Deep.Slices
namespace Go.Ev.ZD
open Go Go.Ev Go.RowKit
theorem Laid.below {W w : World} (h : Laid W) (hb : Below W.heap.size W w) : Laid w := by
  have keep : ∀ (g : Nat) (o : Obj), W.heap[g]? = some o → w.heap[g]? = some o := fun g o ho => by
    rw [hb.block g (Array.getElem?_eq_some_iff.1 ho).1]; exact ho
  obtain ⟨⟨t3, h3⟩, ⟨t4, h4⟩, ⟨t5, h5⟩, ⟨v1, t1, h1, o1⟩, ⟨v2, t2, h2, o2⟩⟩ := h
  exact ⟨⟨t3, keep _ _ h3⟩, ⟨t4, keep _ _ h4⟩, ⟨t5, keep _ _ h5⟩, ⟨v1, t1, keep _ _ h1, o1⟩, ⟨v2, t2, keep _ _ h2, o2⟩⟩
theorem cell_lt {w : World} {b o : Nat} {v : Value} (h : w.cell? ⟨b, o, none⟩ = some v) : b < w.heap.size := by
  rcases Nat.lt_or_ge b w.heap.size with hlt | hge
  · exact hlt
  · simp [World.cell?, Array.getElem?_eq_none hge] at h
theorem awake29 {W : World} (hl : Laid W) : Calls P 10 #[] W fun e w' => e = .returned (.bool true) ∧ Below W.heap.size W w' := by
  obtain ⟨outs, e, hall⟩ := allTrue_some awake_true
  letI := holes W fun _ _ => True
  exact run_law hl (fun _ _ => True) sums_base e hall #[] .empty
end Go.Ev.ZD
namespace Go.Proofs.YtakhkpgkbbcnhaaGreatDoor.auditKinds
open Go.ChangeShapes Go.WideShapes Go.ChangeAt Go.RowKit Go.Deep
set_option maxRecDepth 100000

theorem laidOut : laidOutB Tryz.prog = true := by kernel_rfl
theorem k79 : Tryz.prog.cellsOf 79 = 2 := by kernel_rfl
theorem k9 : Tryz.prog.cellsOf 9 = 1 := by kernel_rfl
theorem k3 : Tryz.prog.cellsOf 3 = 1 := by kernel_rfl
theorem choose_list {Q : Nat → Int → Prop} : ∀ n, (∀ i, i < n → ∃ k, Q i k) → ∃ ks : List Int, ks.length = n ∧ ∀ i, i < n → Q i (ks.getD i 0) := by
  intro n
  induction n with
  | zero => intro _; exact ⟨[], rfl, fun i hi => absurd hi (by omega)⟩
  | succ n ih =>
    intro h
    obtain ⟨ks, hl, hq⟩ := ih fun i hi => h i (by omega)
    obtain ⟨k, hk⟩ := h n (by omega)
    refine ⟨ks ++ [k], by simp [hl], fun i hi => ?_⟩
    by_cases e : i = n
    · subst e
      have : (ks ++ [k]).getD i 0 = k := by simp [List.getD, ← hl]
      rw [this]; exact hk
    · have : (ks ++ [k]).getD i 0 = ks.getD i 0 := by
        simp only [List.getD_eq_getElem?_getD]
        rw [List.getElem?_append_left (by omega)]
      rw [this]; exact hq i (by omega)

theorem cut_run (a : Option Addr) (n0 cap n : Nat) (h : n ≤ cap) (W : World) : (Instr.slice 22 (.slice a n0 cap) none (some (.int .i64 (n : Int))) none).run Tryz.prog W = .ok (.slice a n cap) W := by
  have hs : (sizeOf 79).run Tryz.prog W = .ok 2 W := Tryz.sizeOf79 W
  have h0 : (0 : Int) ≤ (n : Int) := by omega
  have h1 : (n : Int) ≤ (cap : Int) := by omega
  have hadd : a.map (fun x => x.add 0) = a := by
    cases a with
    | none => rfl
    | some x =>
      obtain ⟨b, off, spot⟩ := x
      cases spot <;> simp [Addr.add]
  simp [Instr.slice, run_underlying Tryz.underlying22, Instr.sliceBounds, Instr.sliceBound, asIntOf, hs, h]
  exact fun _ => hadd

theorem lifted (os : Os) (started : os.Started) (H : Type) (enc : TypeId × Value → H) :
    ReturnsInHanded {} Tryz.checked os 3 .any (fun w args => (Rows.auditKindsSpec.pre enc Tryz.prog Tryz.f3 [] false w args ∧ laidMetH Tryz.prog laidL w) ∧ sizedMet enc Tryz.prog Tryz.f3 (OpenSpec.ofChange Rows.auditKindsSpec) false w args)
      (Rows.auditKindsSpec.post enc Tryz.prog Tryz.f3 false true false false) := by
  refine returnsInHanded_of_change_and (C := Tryz.checked) (X := fun w _ => laidMetH Tryz.prog laidL w) (fun _ _ _ hh h => h.of_heap hh) own started (by kernel_rfl) Tryz.func3
    (ChangeSpec.witness_shaped (enc := enc) (C := Tryz.checked) (os := os) (X := fun w _ => laidMetH Tryz.prog laidL w) false (World.doorLaid Tryz.prog 400 os) #[.slice none 0 0] 8 rfl (World.shaped_of_RefB (by kernel_rfl) (by kernel_rfl)) (by kernel_rfl) (by kernel_rfl) (by kernel_rfl) (door_met os _)) ?_
  intro W base args ds gs before hval0 hW _ _ hL _
  have hval : ∀ (j : Nat) t v, Tryz.f3.params[j]? = some t → args[j]? = some v → Value.okWide Tryz.prog W .any base t v := hval0
  have hW' := hW
  obtain ⟨p, q, hA0, hV, rfl, hfz, hnd⟩ := hW
  have hA : DataW.TrodAll enc Tryz.prog W 0 (fun _ => true) true Tryz.f3.params.toList args.toList ds p := hA0
  rw [Tryz.params3] at hA hval
  obtain ⟨v0, vs0, d0, ds0, p0, q0, hargs, rfl, rfl, h0, r0⟩ := trodAll_cons hA
  obtain ⟨rfl, rfl, rfl⟩ := trodAll_nil r0
  obtain rfl : args = #[v0] := by cases args; simp_all
  obtain ⟨rfl, rfl⟩ := trodVars_none hV
  obtain ⟨a0, len, cap, rfl⟩ := okWide_slice Tryz.underlying22 (hval 0 22 v0 rfl rfl)
  have h0k := h0
  obtain ⟨fuel, hf⟩ := h0
  clear hA0 hval0
  simp only [List.append_nil] at hW'
  have hlt : ∀ x ∈ p0, x.block < W.heap.size := fun x hx => by simpa using hW'.lt x hx
  have laid := of_laid hL
  have aw := fun (w : World) (hb : Below W.heap.size W w) => Go.Ev.ZD.awake29 (laid.below hb)
  have fin : (Calls Tryz.prog 3 #[.slice a0 len cap] W fun e w' => e = .returned (.bool true) ∧ Below W.heap.size W w') →
      Calls Tryz.checked.prog 3 #[.slice a0 len cap] W fun e W' => ∃ v, e = .returned v ∧ Rows.auditKindsSpec.post enc Tryz.checked.prog Tryz.f3 false true false false W #[.slice a0 len cap] v W' := by
    intro hc
    refine hc.mono fun e W' ⟨he, hb⟩ => ?_
    subst he
    exact ⟨_, rfl, _, _, _, [], p0 ++ [], [], hW', trodAll_cons_mk (shut_bool Tryz.underlying4 true) trodAll_mk0,
      trodAll_cons_mk (Below.trod laidOut (by kernel_rfl) (of_decide_eq_true (by kernel_rfl)) h0k hb hlt) trodAll_mk0, rfl, hb.frame _, fun h => by cases h⟩
  refine fin ?_
  rcases open_slice Tryz.underlying22 hf with ⟨hcs, _⟩ | ⟨a, len', cap', m, n, D, Pl, hcs, _, hl, hmx, hmm, _, hi⟩
  · simp only [Value.cells, List.cons.injEq, Value.slice.injEq, and_true] at hcs
    obtain ⟨rfl, rfl, rfl⟩ := hcs
    exact law_tail aw none none 0 0 0 0 (ks := []) rfl (by omega) (.inl ⟨rfl, none, 0, rfl⟩) (cut_run none 0 0 0 (by omega)) (.inl ⟨by omega, rfl⟩)
  · simp only [Value.cells, List.cons.injEq, Value.slice.injEq, and_true] at hcs
    obtain ⟨rfl, rfl, rfl⟩ := hcs
    simp only [if_true] at hmm
    have each : ∀ i, i < cap → ∃ k : Int, (∃ s, W.cell? (a.add (i * 2)) = some (.string s)) ∧ W.cell? ((a.add (i * 2)).add 1) = some (.int .i64 k) := by
      intro i hic
      obtain ⟨cs', hc, ht⟩ := hi i (by omega)
      rw [k79] at hc
      obtain ⟨_, hcl, hat⟩ := World.cells?_some hc
      obtain ⟨y0, y1, n1, _, _, g0, g1⟩ := trod_struct2 Tryz.underlying79 ht
      obtain ⟨s, e0, _, _⟩ := DataW.trod_string Tryz.underlying9 g0
      obtain ⟨k, e1, _, _⟩ := DataW.trod_int Tryz.underlying3 g1
      match cs', hcl with
      | [x, y], _ =>
        rw [k9] at e0
        rw [k3] at e1
        simp at e0 e1
        subst e0; subst e1
        refine ⟨k, ⟨s, ?_⟩, ?_⟩
        · have := hat 0 (by omega)
          have h00 : (a.add (i * 2)).add 0 = a.add (i * 2) := by
            obtain ⟨b, off, spot⟩ := a
            cases spot <;> simp [Addr.add]
          rw [h00] at this
          simpa using this
        · have := hat 1 (by omega)
          simpa using this
    by_cases hpos : 0 < len
    · obtain ⟨b, off, spot⟩ := a
      have hspot : spot = none := by
        obtain ⟨k, ⟨s, hs⟩, _⟩ := each 0 (by omega)
        simpa [Addr.add] using World.cell?_spot hs
      subst hspot
      have plain : ∀ i, (Addr.add ⟨b, off, none⟩ (i * 2)) = ⟨b, off + i * 2, none⟩ := fun i => Go.WideShapes.add_plain _ _ _
      have plain1 : ∀ i, ((Addr.add ⟨b, off, none⟩ (i * 2)).add 1) = ⟨b, off + i * 2 + 1, none⟩ := fun i => by rw [plain]; exact Go.WideShapes.add_plain _ _ _
      have each2 : ∀ i, i < min len 60 → ∃ k : Int, (∃ s, W.cell? ⟨b, off + i * 2, none⟩ = some (.string s)) ∧ W.cell? ⟨b, off + i * 2 + 1, none⟩ = some (.int .i64 k) := fun i hic => by
        obtain ⟨k, h1, h2⟩ := each i (by omega)
        rw [plain] at h1
        rw [plain1] at h2
        exact ⟨k, h1, h2⟩
      obtain ⟨ks, hkl, hks⟩ := choose_list (min len 60) each2
      have hbl : b < W.heap.size := by
        obtain ⟨⟨s, hs⟩, _⟩ := hks 0 (by omega)
        exact Go.Ev.ZD.cell_lt hs
      have hsl : Sl W (.slice (some ⟨b, off, none⟩) (min len 60) cap) ks := .inr ⟨b, off, cap, by rw [hkl], by omega, hbl, by omega, fun j hj => hks j (by omega)⟩
      exact law_tail aw _ _ len (min len 60) cap cap hkl.symm (by omega) hsl (cut_run _ len cap (min len 60) (by omega)) (by omega)
    · obtain rfl : len = 0 := by omega
      exact law_tail aw (some a) (some a) 0 0 cap cap (ks := []) rfl (by omega) (.inl ⟨rfl, some a, cap, rfl⟩) (cut_run _ 0 cap 0 (by omega)) (.inl ⟨by omega, rfl⟩)

theorem named3 : Tryz.prog.funcNamed "loggia/loggialaw29.AuditKinds" = some 3 := by kernel_rfl
theorem inst3 : Tryz.f3.isInstance Tryz.prog Rows.auditKindsRow.origin Rows.auditKindsRow.targs := of_decide_eq_true (by kernel_rfl)
theorem wrap3 : Tryz.f3.isWrapper Tryz.prog Rows.auditKindsRow.wrapper Rows.auditKindsRow.mainSum := by
  unfold Func.isWrapper
  rw [if_neg (of_decide_eq_false (by kernel_rfl))]
  exact ⟨rfl, rfl⟩
theorem over : Rows.AuditKindsSaid :=
  OpenClaim.holds_of_wide 3 Tryz.f3 rfl rfl rfl rfl rfl rfl rfl ⟨rfl, rfl, rfl, rfl, rfl⟩ rfl rfl rfl rfl rfl named3 Tryz.func3 kinds_facts inst3 wrap3
    (fun os started H enc _ => lifted os started H enc)
theorem proved : Rows.AuditKindsCardSaid :=
  Claim7.holds_tied_plain_at .later [] [.data, .data, .data, .sentinel, .sentinel] true (true, "0b3544a5c33a6c2a5254b340831026e0df40c3468a53e8ef2e8e0266ad857c84") true
    over (fun _ h => by cases h) (by as_aux_lemma => kernel_rfl) (fun _ h => by cases h) auditKinds_row_tie rfl ⟨rfl, rfl⟩ (by as_aux_lemma => kernel_rfl) rfl
    (fun f fn hf hfn => by
      obtain rfl : f = 3 := Option.some.inj (named3.symm.trans hf) |>.symm
      obtain rfl : fn = Tryz.f3 := (Option.some.inj (Tryz.func3.symm.trans hfn)).symm
      exact ⟨by as_aux_lemma => kernel_rfl, fun j t ht => by
        rw [Tryz.params3] at ht
        have hm : t ∈ [22] := by simpa using Array.mem_of_getElem? ht
        have hall : ([22].all fun u => !Tryz.prog.wantsStandIn u) = true := by as_aux_lemma => kernel_rfl
        exact (show Tryz.prog.wantsStandIn t = false by simpa using List.all_eq_true.1 hall t hm)⟩)
    (by as_aux_lemma => kernel_rfl)
#print axioms proved
end Go.Proofs.YtakhkpgkbbcnhaaGreatDoor.auditKinds
