/- Seat Z: loggialaw22.short: it hands back a row of at most six strings. -/
import Derived.Test.YtakhkpgkbbcnhaaGreatRows
import Derived.WalkKit
import Derived.WalkSpells
namespace Go.Proofs.YtakhkpgkbbcnhaaGreat
open Go.RowKit

theorem Tryz.info9 : (Tryz.prog.info? 9).map (fun i => (i.zero, i.size, i.bytes)) = some (some (.string ByteArray.empty), 1, 16) := by kernel_rfl
def AllStr (xs : List Value) : Prop := ∀ x ∈ xs, ∃ s, x = .string s
def ShortOut (w : World) (e : Ending) (w' : World) : Prop :=
  ∃ v k xs, e = .returned v ∧ k ≤ 6 ∧ xs.length = k ∧ AllStr xs ∧ w'.ownsRow w.heap.size 9 1 v k xs ∧ Below w.heap.size w w'
theorem bcell {W w1 : World} {B : Nat} (hb : Below B W w1) : ∀ b o, b < B → w1.cell? ⟨b, o, none⟩ = W.cell? ⟨b, o, none⟩ :=
  fun b o h => hb.cell (p := ⟨b, o, none⟩) h

theorem short_rel {B k : Nat} {w wr w1 : World} {s : ByteArray} {xs : List Value} {v v' : Value} {o : Obj} (hB : B ≤ wr.heap.size) (hk : xs.length = k) (hs : AllStr xs)
    (hown : wr.ownsRow B 9 1 v k xs) (hb : Below B w wr) (hown' : w1.ownsRow B 9 1 v' (k + 1) (xs ++ [.string s])) (hgrow : (wr.alloc o).grownBy w1 v.ownBlock) :
    ∃ ys : List Value, ys.length = k + 1 ∧ AllStr ys ∧ w1.ownsRow B 9 1 v' (k + 1) ys ∧ Below B w w1 := by
  refine ⟨xs ++ [.string s], by simp [hk], ?_, hown', (hb.alloc (by omega) o).grown hgrow (by simp; omega) (fun j hj => (hown.lt j hj).1)⟩
  intro x hx
  rcases List.mem_append.1 hx with h | h
  · exact hs x h
  · exact ⟨s, by simpa using h⟩

set_option maxHeartbeats 800000 in
set_option maxRecDepth 100000 in
theorem short_some (b off len cap : Nat) (ss : List ByteArray) (w : World) (hm : len ≤ maxLen) (hl : len ≤ ss.length) (hb : b < w.heap.size) (hpos : 0 < len)
    (hc : ∀ j, j < ss.length → w.cell? ⟨b, off + j, none⟩ = some (.string (ss.getD j ByteArray.empty))) :
    Calls Tryz.prog 5 #[.slice (some ⟨b, off, none⟩) len cap] w (ShortOut w) := by
  unfold maxLen at hm
  obtain ⟨i0, hi, hz0, hz1, hz2⟩ := info_parts Tryz.info9
  go_enter Tryz.func5, Tryz.ntmps5
  go_wp2
  go_loopw [3, 4] (fun v i wr => ∃ (k : Nat) (xs : List Value), k ≤ len ∧ k ≤ 6 ∧ i = .int .i64 k ∧ xs.length = k ∧ AllStr xs ∧ wr.ownsRow w.heap.size 9 1 v k xs ∧ Below w.heap.size w wr) (fun _ i _ => 6 - (intOf i).toNat)
  case atStart => exact ⟨0, [], by omega, by omega, rfl, rfl, fun x hx => absurd hx (by simp), ⟨rfl, .inl ⟨rfl, rfl⟩⟩, Below.refl _ _⟩
  case round =>
    obtain ⟨k, xs, hk, hk6, rfl, hxl, hstr, hown, hbel⟩ := hrel
    have hsz : w.heap.size ≤ wr.heap.size := hbel.size
    by_cases hlt : k < len
    · by_cases hlt6 : k < 6
      · have hcell : wr.cell? ⟨b, off + k, none⟩ = some (.string (ss.getD k ByteArray.empty)) := (bcell hbel b _ hb).trans (hc k (by omega))
        generalize ss.getD k ByteArray.empty = s at hcell
        by_cases h80 : 80 < s.size
        · go_wp2_with (at_builtin; refine wpList_append_own _ rfl _ _ 23 rfl w.heap.size 9 i0 (.string ByteArray.empty) 1 16 Tryz.underlying23 hi hz0 hz1 hz2 rfl (by decide) _ _ _ rfl (hown.alloc _) ⟨wr.heap.size, 0, none⟩ 1 1 [.string (s.extract 0 80)] rfl rfl ?c1 ?c2 ?c3 ?c4 ?c5 ?_)
          case c1 => exact cell_one_new _ _ _
          case c2 => intro u hu; simp only [List.mem_singleton] at hu; subst hu; rfl
          case c3 => unfold maxLen; omega
          case c4 => omega
          case c5 => simp; omega
          intro v' w1 hown' hgrow _
          obtain ⟨ys, hyl, hys, hown2, hb2⟩ := short_rel hsz hxl hstr hown hbel hown' hgrow
          clear hown' hgrow hown hbel hcell
          go_wp2
          go_roundw
          case rel => exact ⟨k + 1, ys, by omega, by omega, by go_num, hyl, hys, hown2, hb2⟩
          case measure => simp [intOf]; omega
        · go_wp2_with (at_builtin; refine wpList_append_own _ rfl _ _ 23 rfl w.heap.size 9 i0 (.string ByteArray.empty) 1 16 Tryz.underlying23 hi hz0 hz1 hz2 rfl (by decide) _ _ _ rfl (hown.alloc _) ⟨wr.heap.size, 0, none⟩ 1 1 [.string s] rfl rfl ?c6 ?c7 ?c8 ?c9 ?c10 ?_)
          case c6 => exact cell_one_new _ _ _
          case c7 => intro u hu; simp only [List.mem_singleton] at hu; subst hu; rfl
          case c8 => unfold maxLen; omega
          case c9 => omega
          case c10 => simp; omega
          intro v' w1 hown' hgrow _
          obtain ⟨ys, hyl, hys, hown2, hb2⟩ := short_rel hsz hxl hstr hown hbel hown' hgrow
          clear hown' hgrow hown hbel hcell
          go_wp2
          go_roundw
          case rel => exact ⟨k + 1, ys, by omega, by omega, by go_num, hyl, hys, hown2, hb2⟩
          case measure => simp [intOf]; omega
      · go_wp2
        go_ret
        exact ⟨_, k, xs, rfl, hk6, hxl, hstr, hown, hbel⟩
    · go_wp2
      go_ret
      exact ⟨_, k, xs, rfl, hk6, hxl, hstr, hown, hbel⟩

set_option maxHeartbeats 800000 in
theorem short_empty (a : Option Addr) (cap : Nat) (w : World) : Calls Tryz.prog 5 #[.slice a 0 cap] w (ShortOut w) := by
  go_enter Tryz.func5, Tryz.ntmps5
  go_wp2
  refine wp_loop_rounds 1 ?_
  rw [rounds_succ]
  go_wp2
  go_ret
  exact ⟨.slice none 0 0, 0, [], rfl, by omega, rfl, fun x hx => absurd hx (by simp), ⟨rfl, .inl ⟨rfl, rfl⟩⟩, Below.refl _ _⟩
end Go.Proofs.YtakhkpgkbbcnhaaGreat
