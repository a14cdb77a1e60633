/- Seat ZD: the closed facts of AuditKinds's row. -/
import Derived.Test.YtakhkpgkbbcnhaaGreatDoorRows
import Derived.JoinedOf
import Derived.KernelRfl
namespace Go.Proofs.YtakhkpgkbbcnhaaGreatDoor
open Go
set_option maxRecDepth 100000
set_option maxHeartbeats 4000000 in
theorem kinds_facts : joinedFacts Tryz.prog 3 Tryz.f3 Rows.auditKindsSpec Rows.auditKindsRow = true := by
  unfold joinedFacts
  repeat' (with_reducible refine Bool.and_eq_true_iff.mpr ⟨?_, ?_⟩)
  all_goals (as_aux_lemma => kernel_rfl)
end Go.Proofs.YtakhkpgkbbcnhaaGreatDoor
