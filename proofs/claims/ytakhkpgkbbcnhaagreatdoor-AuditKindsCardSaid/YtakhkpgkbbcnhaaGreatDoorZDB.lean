/- Seat ZD: no function bears the name that the model reads by itself. -/
import Derived.Test.YtakhkpgkbbcnhaaGreatDoorZDA
import Derived.Test.YtakhkpgkbbcnhaaGreatDoorProg
import Derived.KernelRfl
namespace Go.Ev.ZD
open Go Go.Ev
set_option maxRecDepth 100000
noncomputable abbrev P := Go.Proofs.Tryz.prog
def namesB (P : Program) : Bool := P.funcs.toList.all fun fn => !(fn.name == "runtime.NumGoroutine")
theorem namesOk_of {P : Program} (h : namesB P = true) : NamesOk P := by
  intro g fn hg
  have := List.all_eq_true.1 h fn (List.mem_of_getElem? (by rw [Array.getElem?_toList]; exact hg))
  simpa using this
theorem names : namesB P = true := by kernel_rfl
end Go.Ev.ZD
