/- Seat ZD: what the rows' condition on the listed variables gives; the witness's heap meets it. -/
import Derived.Test.YtakhkpgkbbcnhaaGreatDoorZDC
import Derived.Test.YtakhkpgkbbcnhaaGreatDoorRows
import Derived.ProofKit
import Derived.LaidMore
import Derived.Lib.LaidTab
import Derived.OpenShut
import Derived.Stop.Joined
import Derived.LaidByTextLater
namespace Go.Proofs.YtakhkpgkbbcnhaaGreatDoor
open Go.ChangeShapes Go.WideShapes Go.ChangeAt Go.RowKit
set_option maxRecDepth 100000

def laidL : List (String × DataW Unit) := [("math/bits.deBruijn32tab", Rows.laid_math_bits_deBruijn32tab), ("math/bits.deBruijn64tab", Rows.laid_math_bits_deBruijn64tab), ("internal/strconv.uint64pow10", Rows.laid_internal_strconv_uint64pow10), ("strconv.ErrRange", Rows.laid_strconv_ErrRange), ("strconv.ErrSyntax", Rows.laid_strconv_ErrSyntax)]
theorem own : ownKnob Tryz.prog.godebug = none := by kernel_rfl
theorem n4 : Tryz.prog.globalNamed "math/bits.deBruijn32tab" = some 4 := by kernel_rfl
theorem n5 : Tryz.prog.globalNamed "math/bits.deBruijn64tab" = some 5 := by kernel_rfl
theorem n3 : Tryz.prog.globalNamed "internal/strconv.uint64pow10" = some 3 := by kernel_rfl
theorem n2 : Tryz.prog.globalNamed "strconv.ErrRange" = some 2 := by kernel_rfl
theorem n1 : Tryz.prog.globalNamed "strconv.ErrSyntax" = some 1 := by kernel_rfl
theorem y4 : (Tryz.prog.globals[4]?).map (·.type) = some 494 := by kernel_rfl
theorem y5 : (Tryz.prog.globals[5]?).map (·.type) = some 495 := by kernel_rfl
theorem y3 : (Tryz.prog.globals[3]?).map (·.type) = some 485 := by kernel_rfl
theorem y2 : (Tryz.prog.globals[2]?).map (·.type) = some 278 := by kernel_rfl
theorem y1 : (Tryz.prog.globals[1]?).map (·.type) = some 278 := by kernel_rfl
theorem k5 : Tryz.prog.cellsOf 5 = 1 := by kernel_rfl
theorem k234 : Tryz.prog.cellsOf 234 = 1 := by kernel_rfl
theorem k494 : Tryz.prog.cellsOf 494 = 32 := by kernel_rfl
theorem k495 : Tryz.prog.cellsOf 495 = 64 := by kernel_rfl
theorem k485 : Tryz.prog.cellsOf 485 = 20 := by kernel_rfl

def ints (l : List Value) : List Int := l.map fun v => match v with | .int _ n => n | _ => 0
theorem tab4 : (Rows.laid_math_bits_deBruijn32tab : DataW Unit) = Lib.tabData .u8 (ints Go.Ev.ZD.c_math_bits_deBruijn32tab) := rfl
theorem tab5 : (Rows.laid_math_bits_deBruijn64tab : DataW Unit) = Lib.tabData .u8 (ints Go.Ev.ZD.c_math_bits_deBruijn64tab) := rfl
theorem tab3 : (Rows.laid_internal_strconv_uint64pow10 : DataW Unit) = Lib.tabData .u64 (ints Go.Ev.ZD.c_internal_strconv_uint64pow10) := rfl
theorem back4 : (ints Go.Ev.ZD.c_math_bits_deBruijn32tab).map (fun z => Value.int .u8 z) = Go.Ev.ZD.c_math_bits_deBruijn32tab := rfl
theorem back5 : (ints Go.Ev.ZD.c_math_bits_deBruijn64tab).map (fun z => Value.int .u8 z) = Go.Ev.ZD.c_math_bits_deBruijn64tab := rfl
theorem back3 : (ints Go.Ev.ZD.c_internal_strconv_uint64pow10).map (fun z => Value.int .u64 z) = Go.Ev.ZD.c_internal_strconv_uint64pow10 := rfl

theorem var_block {W : World} {nm : String} {g : Nat} {cs : Array Value} (hg : Tryz.prog.globalNamed nm = some g) (hv : W.var? Tryz.prog nm = some cs) {c : Array Value} {t : TypeId} (hb : W.heap[g]? = some (.cells c t (0, 0))) :
    W.heap[g]? = some (.cells cs t (0, 0)) := by
  unfold World.var? at hv
  rw [hg] at hv
  simp only [Option.bind_some, hb] at hv
  obtain rfl := Option.some.inj hv
  exact hb
theorem iface_cell {W : World} {enc : TypeId × Value → Unit} {b : Nat} {sp : Nat → Bool} {held : Bool} {fuel : Nat} {cs : List Value} {nm : String} {d : DataW Unit} {p : List MemPlace}
    (h : DataW.trod enc Tryz.prog W b sp held fuel 278 cs = some (.iface nm d, p)) : ∃ v, cs = [v] ∧ Go.Ev.oneCell v = true := by
  cases fuel with
  | zero => simp [DataW.trod] at h
  | succ n =>
    simp only [DataW.trod, Tryz.underlying278] at h
    split at h <;> first
      | exact ⟨_, rfl, rfl⟩
      | exact absurd h (by simp)

theorem of_laid {W : World} (h : laidMetH Tryz.prog laidL W) : Go.Ev.ZD.Laid W := by
  rw [MakeChecks.laidMetH_plain _ _ _ (by kernel_rfl)] at h
  obtain ⟨ps, ⟨g4, t4, cs4, f4, p4, q4, hg4, ht4, hv4, hd4, ⟨g5, t5, cs5, f5, p5, q5, hg5, ht5, hv5, hd5, ⟨g3, t3, cs3, f3, p3, q3, hg3, ht3, hv3, hd3, ⟨g2, t2, cs2, f2, p2, q2, hg2, ht2, hv2, hd2, ⟨g1, t1, cs1, f1, p1, q1, hg1, ht1, hv1, hd1, hq, e1⟩, e2⟩, e3⟩, e5⟩, e4⟩, _, hrows⟩ := h
  obtain rfl := Option.some.inj (n4.symm.trans hg4)
  obtain rfl := Option.some.inj (n5.symm.trans hg5)
  obtain rfl := Option.some.inj (n3.symm.trans hg3)
  obtain rfl := Option.some.inj (n2.symm.trans hg2)
  obtain rfl := Option.some.inj (n1.symm.trans hg1)
  obtain rfl := Option.some.inj (y4.symm.trans ht4)
  obtain rfl := Option.some.inj (y5.symm.trans ht5)
  obtain rfl := Option.some.inj (y3.symm.trans ht3)
  obtain rfl := Option.some.inj (y2.symm.trans ht2)
  obtain rfl := Option.some.inj (y1.symm.trans ht1)
  have hq' : q1 = [] := hq
  rw [tab4] at hd4
  rw [tab5] at hd5
  rw [tab3] at hd3
  have c4 := Lib.cells_of_tab Tryz.underlying494 Tryz.underlying5 k5 k494 hd4
  have c5 := Lib.cells_of_tab Tryz.underlying495 Tryz.underlying5 k5 k495 hd5
  have c3 := Lib.cells_of_tab Tryz.underlying485 Tryz.underlying234 k234 k485 hd3
  rw [back4] at c4
  rw [back5] at c5
  rw [back3] at c3
  obtain ⟨v2, i2, o2⟩ := iface_cell hd2
  obtain ⟨v1, i1, o1⟩ := iface_cell hd1
  subst hq'
  subst e1
  subst e2
  subst e3
  subst e5
  subst e4
  have s4 : 0 < cs4.size := by rw [← Array.length_toList, c4]; decide
  have s5 : 0 < cs5.size := by rw [← Array.length_toList, c5]; decide
  have s3 : 0 < cs3.size := by rw [← Array.length_toList, c3]; decide
  have s2 : 0 < cs2.size := by rw [← Array.length_toList, i2]; exact Nat.zero_lt_one
  have s1 : 0 < cs1.size := by rw [← Array.length_toList, i1]; exact Nat.zero_lt_one
  obtain ⟨x4, u4, b4⟩ := (hrows 4 0 (by simp [MemPlace.row, s4])).1
  obtain ⟨x5, u5, b5⟩ := (hrows 5 0 (by simp [MemPlace.row, s5])).1
  obtain ⟨x3, u3, b3⟩ := (hrows 3 0 (by simp [MemPlace.row, s3])).1
  obtain ⟨x2, u2, b2⟩ := (hrows 2 0 (by simp [MemPlace.row, s2])).1
  obtain ⟨x1, u1, b1⟩ := (hrows 1 0 (by simp [MemPlace.row, s1])).1
  have w4 := var_block n4 hv4 b4
  have w5 := var_block n5 hv5 b5
  have w3 := var_block n3 hv3 b3
  have w2 := var_block n2 hv2 b2
  have w1 := var_block n1 hv1 b1
  obtain ⟨l4⟩ := cs4
  obtain ⟨l5⟩ := cs5
  obtain ⟨l3⟩ := cs3
  obtain ⟨l2⟩ := cs2
  obtain ⟨l1⟩ := cs1
  simp only at c4 c5 c3 i2 i1
  subst c4 c5 c3 i2 i1
  exact ⟨⟨_, w3⟩, ⟨_, w4⟩, ⟨_, w5⟩, ⟨_, _, w1, o1⟩, ⟨_, _, w2, o2⟩⟩

theorem door_met (os : Os) (args : Array Value) : laidMetH Tryz.prog laidL ((World.doorLaid Tryz.prog 400 os).forCall (fun _ _ => 0) ⟨#[], args, []⟩).memory :=
  laidMetH_of_parts3 (fuel := 8) (laidMet_of_run' 8 (by kernel_rfl) (by kernel_rfl)) (by kernel_rfl) (by kernel_rfl)
end Go.Proofs.YtakhkpgkbbcnhaaGreatDoor
