/- loggialaw22.PartNobody: for every input the call returns true, and the argument reads as it did. Conditions: none. -/
import Derived.Test.YtakhkpgkbbcnhaaGreatZP
import Derived.Test.YtakhkpgkbbcnhaaGreatRows
import Derived.WalkKit
import Derived.ProofKit
import Derived.OpenShut
import Derived.Lib.SmallJoins
namespace Go.Proofs.YtakhkpgkbbcnhaaGreat.partNobody
open Go.ChangeShapes Go.WideShapes Go.ChangeAt Go.RowKit Go.Joins

theorem own : ownKnob Tryz.prog.godebug = none := by kernel_rfl
theorem Tryz.cells28 : Tryz.prog.cellsOf 28 = 7 := by kernel_rfl
theorem Tryz.cells9 : Tryz.prog.cellsOf 9 = 1 := by kernel_rfl
theorem Tryz.cells23 : Tryz.prog.cellsOf 23 = 1 := by kernel_rfl
theorem Tryz.types28 : Tryz.prog.cellTypes Tryz.prog.depth 28 = some [22, 9, 23, 24, 3, 3, 23] := by kernel_rfl
theorem Tryz.laidOut : laidOutB Tryz.prog = true := by kernel_rfl
set_option maxRecDepth 100000 in
theorem one_cell {w : World} {base : Nat} {u : TypeId} {v : Value} (hu : u ∈ [22, 9, 23, 24, 3, 3, 23]) (h : Cell.okWide Tryz.prog w .any base u v) : Go.Ev.oneCell v = true := by
  simp only [List.mem_cons, List.not_mem_nil, or_false] at hu
  rcases hu with rfl | rfl | rfl | rfl | rfl | rfl | rfl <;>
    simp only [Cell.okWide, Cell.ok, Tryz.underlying22, Tryz.underlying9, Tryz.underlying23, Tryz.underlying24, Tryz.underlying3] at h <;>
    (cases v <;> first | rfl | exact absurd h (by simp))

set_option maxRecDepth 100000 in
theorem lifted (os : Os) (started : os.Started) (H : Type) (enc : TypeId × Value → H) :
    ReturnsInHanded {} Tryz.checked os 3 .any (Rows.partNobodySpec.pre6 enc Tryz.prog Tryz.f3 Rows.partNobodyRow.domain false) (Rows.partNobodySpec.post enc Tryz.prog Tryz.f3 false true false false) := by
  refine returnsInHanded_of_change (C := Tryz.checked) own started (by kernel_rfl) Tryz.func3
    (ChangeSpec.witness6 (enc := enc) (C := Tryz.checked) false ⟨#[], #[.agg #[.int .i64 0, .string ByteArray.empty, .slice none 0 0, .slice none 0 0, .int .i64 0, .int .i64 0, .slice none 0 0]], []⟩ 8 (by kernel_rfl) (by kernel_rfl) (by kernel_rfl) (by kernel_rfl)) ?_
  intro W base args ds gs before hval0 hW hcnd _
  have hval : ∀ (j : Nat) t v, Tryz.f3.params[j]? = some t → args[j]? = some v → Value.okWide Tryz.prog W .any base t v := hval0
  have hW' := hW
  obtain ⟨p, q, hA0, hV, rfl, hfz, hnd⟩ := hW
  have hA : DataW.TrodAll enc Tryz.prog W 0 (fun _ => true) true Tryz.f3.params.toList args.toList ds p := hA0
  rw [Tryz.params3] at hA hval
  obtain ⟨v0, vs0, d0, ds0, p0, q0, hargs, rfl, rfl, h0, r0⟩ := trodAll_cons hA
  obtain ⟨rfl, rfl, rfl⟩ := trodAll_nil r0
  obtain rfl : args = #[v0] := by cases args; simp_all
  obtain ⟨rfl, rfl⟩ := trodVars_none hV
  have hv0 := hval 0 28 v0 rfl rfl
  have h0k := h0
  obtain ⟨cs, rfl, hsz⟩ := okWide_struct Tryz.underlying28 hv0
  rw [Tryz.cells28] at hsz
  obtain ⟨fuel, hf⟩ := h0
  obtain ⟨y0, y1, y2, y3, n, hx, _, g0, g1, g2, g3⟩ := trod_struct4 Tryz.underlying28 hf
  have hone : ∀ (i : Nat) (v : Value), cs[i]? = some v → Go.Ev.oneCell v = true := by
    intro i v hi
    simp only [Value.okWide, Tryz.underlying28] at hv0
    obtain ⟨cs', e, _, ts, hts, _, hcell⟩ := hv0
    cases e
    rw [Tryz.types28] at hts
    cases hts
    obtain ⟨u, hu, hok⟩ := hcell i v hi
    exact one_cell (List.mem_of_getElem? hu) hok
  have hlen : 6 < cs.size := by omega
  have hlast : ((Value.agg cs).cells.toList.drop 6).take 1 = [cs[6]] := by
    simp only [Value.cells]
    rw [List.drop_eq_getElem_cons (by simpa using hlen)]
    simp
  have g3' : DataW.trod enc Tryz.prog W 0 (fun _ => true) true n 23 [cs[6]] = some y3 := by
    rw [← hlast]
    have := g3
    simp only [Tryz.cells23] at this
    exact this
  have hterms : Go.Ev.Z.Terms W cs[6] := by
    rcases open_strings Tryz.underlying23 Tryz.underlying9 Tryz.cells9 g3' with ⟨hcs, _⟩ | ⟨a, len, cap, ss, hcs, _, hl, hm, hz, _, hcell, _⟩
    · simp only [List.cons.injEq, and_true] at hcs
      exact .inl ⟨none, 0, hcs⟩
    · simp only [List.cons.injEq, and_true] at hcs
      simp only [if_true] at hz
      by_cases hpos : 0 < len
      · obtain ⟨b, off, spot⟩ := a
        have hspot : spot = none := by simpa [Addr.add] using World.cell?_spot (hcell 0 (by omega))
        subst hspot
        exact .inr ⟨b, off, len, cap, ss, hcs, by omega, by omega, hpos, fun j hj => by rw [← Go.WideShapes.add_plain]; exact hcell j hj⟩
      · obtain rfl : len = 0 := by omega
        exact .inl ⟨some a, cap, hcs⟩
  clear hA0 hval0
  simp only [List.append_nil] at hW'
  have hlt : ∀ x ∈ p0, x.block < W.heap.size := fun x hx => by simpa using hW'.lt x hx
  refine (Go.Ev.Z.law W cs[6] cs hsz hone (Array.getElem?_eq_getElem hlen) hterms).mono fun e W' ⟨he, hb⟩ => ?_
  subst he
  exact ⟨_, rfl, _, _, _, [], p0 ++ [], [], hW', trodAll_cons_mk (shut_bool Tryz.underlying4 true) trodAll_mk0,
    trodAll_cons_mk (Below.trod Tryz.laidOut (by kernel_rfl) (of_decide_eq_true (by kernel_rfl)) h0k hb hlt) trodAll_mk0, rfl, hb.frame _, fun h => by cases h⟩

theorem over : Rows.partNobodyRow.holds Tryz.pinned (OpenSpec.ofChange Rows.partNobodySpec) :=
  OpenClaim.holds_of_wide 3 Tryz.f3 rfl rfl rfl rfl rfl rfl rfl ⟨rfl, rfl, rfl, rfl, rfl⟩ rfl rfl rfl rfl rfl (by kernel_rfl) Tryz.func3 (by kernel_rfl)
    (of_decide_eq_true (by kernel_rfl)) (by unfold Func.isWrapper; first | (rw [if_pos (by decide +kernel)]; kernel_rfl) | (rw [if_neg (by decide +kernel)]; exact ⟨rfl, rfl⟩))
    (fun os started H enc _ => lifted os started H enc)

theorem proved : Rows.PartNobodySaid :=
  over
#print axioms proved
end Go.Proofs.YtakhkpgkbbcnhaaGreat.partNobody
