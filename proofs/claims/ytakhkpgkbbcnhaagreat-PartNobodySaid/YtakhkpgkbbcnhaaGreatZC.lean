/- Seat Z: awake, as a contract. -/
import Derived.Test.YtakhkpgkbbcnhaaGreatZB
import Derived.Test.YtakhkpgkbbcnhaaGreatEvX
namespace Go.Ev.Z
open Go Go.Ev Go.RowKit
set_option maxRecDepth 100000

def namesB (P : Program) : Bool := P.funcs.toList.all fun fn => !(fn.name == "runtime.NumGoroutine")
theorem namesOk_of {P : Program} (h : namesB P = true) : NamesOk P := by
  intro g fn hg
  have := List.all_eq_true.1 h fn (List.mem_of_getElem? (by rw [Array.getElem?_toList]; exact hg))
  simpa using this
theorem names : namesB P = true := by kernel_rfl
theorem plain_none : plainS (fun _ _ _ => none) = noS := rfl
theorem crc_ev : ∃ n, chkOut crcCells (ev P noS n (.call 193 #[]) ⟨0, .leaf⟩) = true := by
  refine ⟨20000, ?_⟩
  have h := crc_run
  unfold chkOutR at h
  split at h
  · rename_i b hp e
    have := fv_gives P (fun _ _ _ => none) 20000 (.call 193 []) ⟨0, .leaf⟩ _ e
    rw [plain_none] at this
    rw [show ev P noS 20000 (.call 193 #[]) ⟨0, .leaf⟩ = _ from this]
    exact h
  · exact absurd h (by simp)
theorem sums [Holes] : SumsOk P (plainS S) := by
  obtain ⟨n, h⟩ := crc_ev
  exact tableS_ok (namesOk_of names) 303 crc_flat h
def startFacts (w : World) : Facts := ⟨w.tape, w.os, w.output, fun k o => w.heap[k]? = some o, fun _ => False⟩
theorem start_inv [Holes] (w : World) (hb : Base w) : Inv (startFacts w) (fun _ => none) ⟨0, .leaf⟩ w := by
  have hempty : ∀ b o, (⟨0, .leaf⟩ : Heap).get b ≠ some o := by intro b o; simp [Heap.get, Tree.get]
  exact ⟨rfl, rfl, rfl, hb, fun k o h => h, fun b o L h => absurd h (hempty b o), fun b b' o o' L L' h => absurd h (hempty b o), fun b o L k o' h => absurd h (hempty b o), fun b L h => by simp at h, fun b o h => absurd h (hempty b o), fun b h => h.elim⟩
theorem below_of_inv [Holes] {w w' : World} {σ : Emb} {h : Heap} (i : Inv (startFacts w) σ h w') : Below w.heap.size w w' := by
  have hold : ∀ (k : Nat) (o : Obj), w.heap[k]? = some o → w'.heap[k]? = some o := fun k o hk => i.facts k o hk
  have hsz : w.heap.size ≤ w'.heap.size := by
    rcases Nat.lt_or_ge w'.heap.size w.heap.size with hlt | hge
    · have := hold w'.heap.size _ (Array.getElem?_eq_getElem hlt)
      rw [Array.getElem?_eq_none (Nat.le_refl _)] at this
      exact absurd this (by simp)
    · exact hge
  refine ⟨i.os, i.tape, i.output, hsz, fun k hk => ?_⟩
  rw [hold k _ (Array.getElem?_eq_getElem hk), Array.getElem?_eq_getElem hk]
/-- A closed run, from any world: what all outcomes hold of. -/
theorem run_law [Holes] {P : Program} (hN : NamesOk P) {S : SumsR} (hS : SumsOk P (plainS S)) {n : Nat} {f : FuncId} {args : List Value} {outs : List OutR}
    (e : fv P S n (.call f args) ⟨0, .leaf⟩ = some outs) (ht : ∀ o ∈ outs, ∃ h, o = .val (.bool true) h) (w : World) (hb : Base w) (args' : Array Value) (hargs : VsRel (fun _ => none) ⟨args⟩ args') :
    CallsIn Fence.wide 0 P f args' w (retPost fun v w' => v = .bool true ∧ Below w.heap.size w w') := by
  have he := fv_gives P S n (.call f args) ⟨0, .leaf⟩ _ e
  refine ev_sound hN hS n (.call f ⟨args⟩) ⟨0, .leaf⟩ _ he _ _ w (start_inv w hb) args' _ hargs ?_
  intro v h2 hm σ v' w' hle i' hv
  obtain ⟨o, ho, hov⟩ := List.mem_map.1 hm
  obtain ⟨h3, rfl⟩ := ht o ho
  simp only [OutR.out, Out.val.injEq] at hov
  obtain ⟨rfl, rfl⟩ := hov
  cases hv
  exact ⟨rfl, below_of_inv i'⟩
def isTrueO (o : OutR) : Bool :=
  match o with
  | .val (.bool true) _ => true
  | _ => false
theorem isTrueO_eq {o : OutR} (h : isTrueO o = true) : ∃ h, o = .val (.bool true) h := by
  unfold isTrueO at h
  split at h
  · exact ⟨_, rfl⟩
  · exact absurd h (by simp)
noncomputable def allTrue (o : Option (List OutR)) : Bool :=
  match o with
  | some l => l.all isTrueO
  | none => false
theorem allTrue_some {o : Option (List OutR)} (h : allTrue o = true) : ∃ outs, o = some outs ∧ ∀ x ∈ outs, ∃ h, x = .val (.bool true) h := by
  cases o with
  | none => exact absurd h (by simp [allTrue])
  | some l => exact ⟨l, rfl, fun x hx => isTrueO_eq (List.all_eq_true.1 h x hx)⟩
theorem awake (w : World) : CallsIn Fence.wide 0 P 13 #[] w (retPost fun v w' => v = .bool true ∧ Below w.heap.size w w') := by
  have h := awake_run
  unfold okTrue at h
  split at h
  rotate_left
  · exact absurd h (by simp)
  rename_i hp e
  letI : Holes := ⟨fun _ _ => False, fun _ _ => False⟩
  exact run_law (namesOk_of names) sums e (fun o ho => ⟨_, List.mem_singleton.1 ho⟩) w (fun k o h => h.elim) #[] .empty
end Go.Ev.Z
