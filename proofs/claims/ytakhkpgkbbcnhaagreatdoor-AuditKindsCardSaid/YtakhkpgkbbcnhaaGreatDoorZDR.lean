/- Seat ZD: AuditNobody's run. -/
import Derived.Test.YtakhkpgkbbcnhaaGreatDoorZDA
import Derived.Test.YtakhkpgkbbcnhaaGreatDoorProg
import Derived.Lib.Bytealg
import Derived.KernelRfl
namespace Go.Ev.ZD
open Go Go.Ev
set_option maxRecDepth 100000
def isTrueO (o : OutR) : Bool :=
  match o with
  | .val (.bool true) _ => true
  | _ => false
theorem isTrueO_eq {o : OutR} (h : isTrueO o = true) : ∃ h, o = .val (.bool true) h := by
  unfold isTrueO at h
  split at h
  · exact ⟨_, rfl⟩
  · exact absurd h (by simp)
noncomputable def allTrue (o : Option (List OutR)) : Bool :=
  match o with
  | some l => l.all isTrueO
  | none => false
theorem allTrue_some {o : Option (List OutR)} (h : allTrue o = true) : ∃ outs, o = some outs ∧ ∀ x ∈ outs, ∃ h, x = .val (.bool true) h := by
  cases o with
  | none => exact absurd h (by simp [allTrue])
  | some l => exact ⟨l, rfl, fun x hx => isTrueO_eq (List.all_eq_true.1 h x hx)⟩
/-- strings.IndexByte. -/
def idxG (l : List Value) : Option Value :=
  match l with
  | [.string s, .int .u8 c] => some (.int .i64 (Lib.indexByte s.data.toList c.toNat.toUInt8))
  | _ => none
/-- internal/stringslite.Clone. -/
def cloneG (l : List Value) : Option Value :=
  match l with
  | [.string s] => if s.size ≤ 1000 then some (.string s) else none
  | _ => none
noncomputable abbrev SA : SumsR := orS (fnS 191 idxG) (fnS 250 cloneG)
theorem nobody_true : allTrue (@fv G6 Go.Proofs.Tryz.prog SA 100000 (.call 4 [.chan (some 0)]) start) = true := by kernel_rfl
end Go.Ev.ZD
