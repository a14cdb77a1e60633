/- Seat Z: the program's own run of awake, from any world: it returns true. -/
import Derived.Test.YtakhkpgkbbcnhaaGreatZA
namespace Go.Ev.Z
open Go Go.Ev
set_option maxRecDepth 100000

def okTrue (o : Option (List OutR)) : Bool :=
  match o with
  | some [.val (.bool true) _] => true
  | _ => false
noncomputable abbrev S : SumsR := tableS 193 303 crcCells
theorem awake_run : okTrue (fv P S 100000 (.call 13 []) ⟨0, .leaf⟩) = true := by kernel_rfl
end Go.Ev.Z
