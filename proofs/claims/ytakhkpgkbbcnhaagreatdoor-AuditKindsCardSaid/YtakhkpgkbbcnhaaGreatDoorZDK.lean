/- Seat ZD: audit.Kinds, Harmless and the reference's. -/
import Derived.Test.YtakhkpgkbbcnhaaGreatDoorRows
import Derived.WalkKit
import Derived.WalkSpells
import Derived.Laws.Rows
import Derived.Laws.Tables
import Derived.Laws.CopyOwn
import Derived.Outline
import Derived.Lib.Hide
namespace Go.Proofs.YtakhkpgkbbcnhaaGreatDoor
open Go.RowKit

def kidx (k : Int) : Nat := if k < 1 ∨ 8 < k then 0 else k.toNat
def bump (cs : List Int) (k : Int) : List Int := cs.set (kidx k) (cs.getD (kidx k) 0 + 1)
def F (ks : List Int) : List Int := ks.foldl bump [0, 0, 0, 0, 0, 0, 0, 0, 0]
def arr (l : List Int) : Array Value := (l.map (Value.int .i64)).toArray
theorem F_snoc (ks : List Int) (k : Int) : F (ks ++ [k]) = bump (F ks) k := by simp [F]
theorem kidx_lt (k : Int) : kidx k < 9 := by unfold kidx; split <;> omega
theorem bump_len (cs : List Int) (k : Int) : (bump cs k).length = cs.length := by simp [bump]
theorem F_len (ks : List Int) : (F ks).length = 9 := by
  unfold F
  have : ∀ (l : List Int) (c : List Int), c.length = 9 → (l.foldl bump c).length = 9 := by
    intro l
    induction l with
    | nil => intro c h; exact h
    | cons k l ih => intro c h; exact ih _ (by rw [bump_len]; exact h)
  exact this ks _ rfl
theorem F_bd (ks : List Int) (i : Nat) : 0 ≤ (F ks).getD i 0 ∧ (F ks).getD i 0 ≤ ks.length := by
  unfold F
  have : ∀ (l : List Int) (c : List Int) (m : Int), (∀ i, 0 ≤ c.getD i 0 ∧ c.getD i 0 ≤ m) → ∀ i, 0 ≤ (l.foldl bump c).getD i 0 ∧ (l.foldl bump c).getD i 0 ≤ m + l.length := by
    intro l
    induction l with
    | nil => intro c m h i; simpa using h i
    | cons k l ih =>
      intro c m h i
      have := ih (bump c k) (m + 1) (fun j => by
        have hj := h j
        have hk := h (kidx k)
        unfold bump
        simp only [List.getD_eq_getElem?_getD, List.getElem?_set] at hj hk ⊢
        split
        · split
          · simp only [Option.getD_some]; omega
          · simp only [Option.getD_none]; omega
        · omega) i
      simp only [List.foldl_cons, List.length_cons]
      omega
  have := this ks [0, 0, 0, 0, 0, 0, 0, 0, 0] 0 (fun i => by
    match i with
    | 0 | 1 | 2 | 3 | 4 | 5 | 6 | 7 | 8 => exact ⟨by decide, by decide⟩
    | i + 9 => simp) i
  omega

/-- A row of problems. -/
def Probs (w : World) (b off : Nat) (ks : List Int) : Prop := ∀ j, j < ks.length → (∃ s, w.cell? ⟨b, off + j * 2, none⟩ = some (.string s)) ∧ w.cell? ⟨b, off + j * 2 + 1, none⟩ = some (.int .i64 (ks.getD j 0))

theorem take_getD (ks : List Int) (k : Nat) (hk : k < ks.length) : ks.take (k + 1) = ks.take k ++ [ks.getD k 0] := by
  rw [List.take_succ_eq_append_getElem hk]
  simp [List.getD, List.getElem?_eq_getElem hk]
theorem arr_cell {w : World} {g : Nat} {l : List Int} (h : w.heap[g]? = some (.cells (arr l) 23 (0, 0))) (i : Nat) (hi : i < l.length) : w.cell? ⟨g, i, none⟩ = some (.int .i64 (l.getD i 0)) := by
  simp [World.cell?, h, arr, List.getD, List.getElem?_eq_getElem hi]
theorem arr_free {w : World} {g : Nat} {l : List Int} (h : w.heap[g]? = some (.cells (arr l) 23 (0, 0))) (i : Nat) : w.frozen? ⟨g, i, none⟩ = false := by
  simp [World.frozen?, h]
theorem size23 : (Tryz.prog.info? 23).map (·.size) = some 9 := by kernel_rfl
theorem arr_size {l : List Int} (h : l.length = 9) : (arr l).size = 9 := by simp [arr, h]
theorem arr_one (l : List Int) : (arr l).all (·.oneCell') = true := by
  rw [Array.all_eq_true_iff_forall_mem]
  intro x hx
  simp only [arr, List.mem_toArray, List.mem_map] at hx
  obtain ⟨a, _, rfl⟩ := hx
  rfl
theorem kinds_step {w wr : World} {k : Nat} {x : Int} {ks : List Int} {o : Obj} (hk : k < ks.length) (hx : ks.getD k 0 = x) (h0 : wr.heap[w.heap.size]? = some (.cells (arr (F [])) 23 (0, 0)))
    (h1 : wr.heap[w.heap.size + 1]? = some (.cells (arr (F (ks.take k))) 23 (0, 0))) (hbel : Below w.heap.size w wr) (hsz : w.heap.size + 2 ≤ wr.heap.size) (i : Nat) (hi : kidx x = i) :
    ((wr.alloc o).setCell ⟨w.heap.size + 1, i, none⟩ (.int .i64 ((F (ks.take k)).getD i 0 + 1))).heap[w.heap.size]? = some (.cells (arr (F [])) 23 (0, 0)) ∧
    ((wr.alloc o).setCell ⟨w.heap.size + 1, i, none⟩ (.int .i64 ((F (ks.take k)).getD i 0 + 1))).heap[w.heap.size + 1]? = some (.cells (arr (F (ks.take (k + 1)))) 23 (0, 0)) ∧
    Below w.heap.size w ((wr.alloc o).setCell ⟨w.heap.size + 1, i, none⟩ (.int .i64 ((F (ks.take k)).getD i 0 + 1))) ∧
    w.heap.size + 2 ≤ ((wr.alloc o).setCell ⟨w.heap.size + 1, i, none⟩ (.int .i64 ((F (ks.take k)).getD i 0 + 1))).heap.size := by
  have old : ∀ j, j < wr.heap.size → (wr.alloc o).heap[j]? = wr.heap[j]? := fun j hj => by
    show (wr.heap.push o)[j]? = _
    rw [Array.getElem?_push, if_neg (by omega)]
  refine ⟨?_, ?_, (hbel.alloc (by omega) o).setCell (by show w.heap.size ≤ w.heap.size + 1; omega) _, ?_⟩
  · simp only [World.setCell, Array.getElem?_modify]
    rw [if_neg (by omega), old _ (by omega)]
    exact h0
  · simp only [World.setCell, Array.getElem?_modify, if_true]
    rw [old _ (by omega), h1, take_getD ks k hk, F_snoc, hx]
    have hset : (arr (F (ks.take k))).setIfInBounds i (.int .i64 ((F (ks.take k)).getD i 0 + 1)) = arr (bump (F (ks.take k)) x) := by
      apply Array.ext'
      unfold arr bump
      rw [hi]
      simp [List.map_set]
    rw [← hset]
    rfl
  · show w.heap.size + 2 ≤ ((wr.heap.push o).modify (w.heap.size + 1) _).size
    simp
    omega

theorem kinds_step0 {w wr : World} {k : Nat} {x : Int} {ks : List Int} (hk : k < ks.length) (hx : ks.getD k 0 = x) (h0 : wr.heap[w.heap.size]? = some (.cells (arr (F [])) 23 (0, 0)))
    (h1 : wr.heap[w.heap.size + 1]? = some (.cells (arr (F (ks.take k))) 23 (0, 0))) (hbel : Below w.heap.size w wr) (hsz : w.heap.size + 2 ≤ wr.heap.size) (i : Nat) (hi : kidx x = i) :
    (wr.setCell ⟨w.heap.size + 1, i, none⟩ (.int .i64 ((F (ks.take k)).getD i 0 + 1))).heap[w.heap.size]? = some (.cells (arr (F [])) 23 (0, 0)) ∧
    (wr.setCell ⟨w.heap.size + 1, i, none⟩ (.int .i64 ((F (ks.take k)).getD i 0 + 1))).heap[w.heap.size + 1]? = some (.cells (arr (F (ks.take (k + 1)))) 23 (0, 0)) ∧
    Below w.heap.size w (wr.setCell ⟨w.heap.size + 1, i, none⟩ (.int .i64 ((F (ks.take k)).getD i 0 + 1))) ∧
    w.heap.size + 2 ≤ (wr.setCell ⟨w.heap.size + 1, i, none⟩ (.int .i64 ((F (ks.take k)).getD i 0 + 1))).heap.size := by
  refine ⟨?_, ?_, hbel.setCell (by show w.heap.size ≤ w.heap.size + 1; omega) _, ?_⟩
  · simp only [World.setCell, Array.getElem?_modify]
    rw [if_neg (by omega)]
    exact h0
  · simp only [World.setCell, Array.getElem?_modify, if_true]
    rw [h1, take_getD ks k hk, F_snoc, hx]
    have hset : (arr (F (ks.take k))).setIfInBounds i (.int .i64 ((F (ks.take k)).getD i 0 + 1)) = arr (bump (F (ks.take k)) x) := by
      apply Array.ext'
      unfold arr bump
      rw [hi]
      simp [List.map_set]
    rw [← hset]
    rfl
  · show w.heap.size + 2 ≤ (wr.heap.modify (w.heap.size + 1) _).size
    simp
    omega

set_option maxHeartbeats 1000000 in
set_option maxRecDepth 100000 in
theorem kinds_some (b off n cap : Nat) (ks : List Int) (w : World) (hn : n = ks.length) (hn60 : n ≤ 60) (hb : b < w.heap.size) (hpos : 0 < n) (hc : Probs w b off ks) :
    Calls Tryz.prog 6 #[.slice (some ⟨b, off, none⟩) n cap] w fun e w' => e = .returned (.agg (arr (F ks))) ∧ Below w.heap.size w w' := by
  have HN := Lib.hid hn
  clear hn
  go_enter Tryz.func6, Tryz.ntmps6
  go_wp2
  go_loopw [9] (fun i wr => ∃ k : Nat, k ≤ n ∧ i = .int .i64 k ∧ wr.heap[w.heap.size]? = some (.cells (arr (F [])) 23 (0, 0)) ∧ wr.heap[w.heap.size + 1]? = some (.cells (arr (F (ks.take k))) 23 (0, 0)) ∧ Below w.heap.size w wr ∧ w.heap.size + 2 ≤ wr.heap.size) (fun i _ => n - (intOf i).toNat)
  case atStart =>
    have e0 : arr (F []) = #[.int .i64 0, .int .i64 0, .int .i64 0, .int .i64 0, .int .i64 0, .int .i64 0, .int .i64 0, .int .i64 0, .int .i64 0] := rfl
    refine ⟨0, Nat.zero_le _, rfl, ?_, ?_, ((Below.refl _ _).alloc (Nat.le_refl _) _).alloc (by simp) _, by simp⟩
    · rw [e0]
      simp only [World.alloc, Array.getElem?_push, Array.size_push]
      rw [if_neg (by omega)]
      exact if_pos trivial
    · rw [List.take_zero, e0]
      simp only [World.alloc, Array.getElem?_push, Array.size_push]
      exact if_pos trivial
  case round =>
    obtain ⟨k, hk, rfl, h0, h1, hbel, hsz⟩ := hrel
    by_cases hlt : k < n
    · have hkl : k < ks.length := by rw [← HN.out]; exact hlt
      obtain ⟨⟨s, hs⟩, hx⟩ := hc k hkl
      have hs2 : wr.cell? ⟨b, off + k * 2, none⟩ = some (.string s) := (hbel.cell (p := ⟨b, _, none⟩) hb).trans hs
      have hx2 : wr.cell? ⟨b, off + k * 2 + 1, none⟩ = some (.int .i64 (ks.getD k 0)) := (hbel.cell (p := ⟨b, _, none⟩) hb).trans hx
      clear hs hx hc
      generalize hxx : ks.getD k 0 = x at hx2
      have HX := Lib.hid hxx
      clear hxx
      have hfl := F_len (ks.take k)
      have hbd := F_bd (ks.take k) (kidx x)
      have htl : (ks.take k).length ≤ 60 := Nat.le_trans (List.length_take_le _ _) (by omega)
      have ha := arr_cell h1 (kidx x) (by rw [hfl]; exact kidx_lt x)
      have hf := arr_free h1 (kidx x)
      by_cases hx1 : x < 1
      · have hi : kidx x = 0 := if_pos (.inl hx1)
        rw [hi] at ha hf hbd
        obtain ⟨c, hcc⟩ : ∃ c, c = (F (ks.take k)).getD 0 0 := ⟨_, rfl⟩
        rw [← hcc] at ha hbd
        have HC := Lib.hid hcc
        have H0 := Lib.hid h0
        have H1 := Lib.hid h1
        have HI := Lib.hid hi
        clear hcc h0 h1 hfl hi
        have hc1 : 0 ≤ c := hbd.1
        have hc2 : c ≤ 60 := by omega
        clear hbd
        have ha2 : (wr.alloc (.cells #[.string s, .int .i64 x] 79)).cell? ⟨w.heap.size + 1, 0, none⟩ = some (.int .i64 c) := (World.cell?_alloc_past _ _ _ (by omega)).trans ha
        have hf2 : (wr.alloc (.cells #[.string s, .int .i64 x] 79)).frozen? ⟨w.heap.size + 1, 0, none⟩ = false := (World.frozen?_alloc_past _ _ _ (by omega)).trans hf
        clear ha hf
        go_wp2
        go_roundw
        case rel =>
          have := kinds_step (o := .cells #[.string s, .int .i64 x] 79) hkl HX.out H0.out H1.out hbel hsz 0 HI.out
          rw [← HC.out] at this
          exact ⟨k + 1, by omega, by go_num, this⟩
        case measure => simp [intOf]; omega
      · by_cases hx8 : 8 < x
        · have hi : kidx x = 0 := if_pos (.inr hx8)
          rw [hi] at ha hf hbd
          obtain ⟨c, hcc⟩ : ∃ c, c = (F (ks.take k)).getD 0 0 := ⟨_, rfl⟩
          rw [← hcc] at ha hbd
          have HC := Lib.hid hcc
          have H0 := Lib.hid h0
          have H1 := Lib.hid h1
          have HI := Lib.hid hi
          clear hcc h0 h1 hfl hi
          have hc1 : 0 ≤ c := hbd.1
          have hc2 : c ≤ 60 := by omega
          clear hbd
          have ha2 : (wr.alloc (.cells #[.string s, .int .i64 x] 79)).cell? ⟨w.heap.size + 1, 0, none⟩ = some (.int .i64 c) := (World.cell?_alloc_past _ _ _ (by omega)).trans ha
          have hf2 : (wr.alloc (.cells #[.string s, .int .i64 x] 79)).frozen? ⟨w.heap.size + 1, 0, none⟩ = false := (World.frozen?_alloc_past _ _ _ (by omega)).trans hf
          clear ha hf
          go_wp2
          go_roundw
          case rel =>
            have := kinds_step (o := .cells #[.string s, .int .i64 x] 79) hkl HX.out H0.out H1.out hbel hsz 0 HI.out
            rw [← HC.out] at this
            exact ⟨k + 1, by omega, by go_num, this⟩
          case measure => simp [intOf]; omega
        · obtain ⟨m, rfl⟩ : ∃ m : Nat, x = m := ⟨x.toNat, by omega⟩
          have hm1 : 1 ≤ m := by omega
          have hm8 : m ≤ 8 := by omega
          have hi : kidx (m : Int) = m := by unfold kidx; rw [if_neg (by omega)]; simp
          rw [hi] at ha hf hbd
          obtain ⟨c, hcc⟩ : ∃ c, c = (F (ks.take k)).getD m 0 := ⟨_, rfl⟩
          rw [← hcc] at ha hbd
          have HC := Lib.hid hcc
          have H0 := Lib.hid h0
          have H1 := Lib.hid h1
          have HI := Lib.hid hi
          clear hcc h0 h1 hfl hi
          have hc1 : 0 ≤ c := hbd.1
          have hc2 : c ≤ 60 := by omega
          clear hbd
          have ha2 : (wr.alloc (.cells #[.string s, .int .i64 (m : Int)] 79)).cell? ⟨w.heap.size + 1, m, none⟩ = some (.int .i64 c) := (World.cell?_alloc_past _ _ _ (by omega)).trans ha
          have hf2 : (wr.alloc (.cells #[.string s, .int .i64 (m : Int)] 79)).frozen? ⟨w.heap.size + 1, m, none⟩ = false := (World.frozen?_alloc_past _ _ _ (by omega)).trans hf
          clear ha hf
          go_wp2
          go_roundw
          case rel =>
            have := kinds_step (o := .cells #[.string s, .int .i64 (m : Int)] 79) hkl HX.out H0.out H1.out hbel hsz m HI.out
            rw [← HC.out] at this
            exact ⟨k + 1, by omega, by go_num, this⟩
          case measure => simp [intOf]; omega
    · obtain rfl : k = n := by omega
      have H0 := Lib.hid h0
      have H1 := Lib.hid h1
      clear h0 h1
      have hT : ks.take k = ks := by rw [HN.out, List.take_length]
      have HT := Lib.hid hT
      clear hT
      have hz := arr_size (F_len (ks.take k))
      have hz0 := arr_size (F_len [])
      have hone := arr_one (F (ks.take k))
      have g1 := H1.out
      have g0 := H0.out
      generalize hA : arr (F (ks.take k)) = A at hz hone g1
      have HA := Lib.hid hA
      clear hA
      generalize arr (F []) = Z at hz0 g0
      have G0 := Lib.hid g0
      have G1 := Lib.hid g1
      have HZ : (Tryz.prog.info? 23).map (·.size) = some A.size := by rw [hz]; exact size23
      have HZ2 := Lib.hid HZ
      have Hz := Lib.hid hz
      have Hz0 := Lib.hid hz0
      have HO := Lib.hid hone
      clear g0 g1 HZ hz hz0 hone
      go_wp2_with (first | (refine wpList_load_row rfl 23 _ rfl (w.heap.size + 1) rfl 23 A (0, 0) _ G1.out Tryz.underlying23 rfl HZ2.out ?_) | (refine wpList_store_row rfl 23 _ _ rfl w.heap.size A rfl rfl 23 Z G0.out HZ2.out (Hz0.out.trans Hz.out.symm) HO.out ?_))
      refine bodyPost_ret (v := .agg A) (results_cell_row Tryz.results6 _ _ w.heap.size 23 A (0, 0) _ rfl (setRow_heap _ _ _ _ _ _ G0.out) Tryz.underlying23 rfl HZ2.out) rfl ⟨?_, below_setRow hbel (Nat.le_refl _) _⟩
      rw [← HA.out, HT.out]
set_option maxHeartbeats 1000000 in
set_option maxRecDepth 100000 in
theorem rkinds_some (b off n cap : Nat) (ks : List Int) (w : World) (hn : n = ks.length) (hn60 : n ≤ 60) (hb : b < w.heap.size) (hpos : 0 < n) (hc : Probs w b off ks) :
    Calls Tryz.prog 7 #[.slice (some ⟨b, off, none⟩) n cap] w fun e w' => e = .returned (.agg (arr (F ks))) ∧ Below w.heap.size w w' := by
  have HN := Lib.hid hn
  clear hn
  go_enter Tryz.func7, Tryz.ntmps7
  go_wp2
  go_loopw [4] (fun i wr => ∃ k : Nat, k ≤ n ∧ i = .int .i64 k ∧ wr.heap[w.heap.size]? = some (.cells (arr (F [])) 23 (0, 0)) ∧ wr.heap[w.heap.size + 1]? = some (.cells (arr (F (ks.take k))) 23 (0, 0)) ∧ Below w.heap.size w wr ∧ w.heap.size + 2 ≤ wr.heap.size) (fun i _ => n - (intOf i).toNat)
  case atStart =>
    have e0 : arr (F []) = #[.int .i64 0, .int .i64 0, .int .i64 0, .int .i64 0, .int .i64 0, .int .i64 0, .int .i64 0, .int .i64 0, .int .i64 0] := rfl
    refine ⟨0, Nat.zero_le _, rfl, ?_, ?_, ((Below.refl _ _).alloc (Nat.le_refl _) _).alloc (by simp) _, by simp⟩
    · rw [e0]
      simp only [World.alloc, Array.getElem?_push, Array.size_push]
      rw [if_neg (by omega)]
      exact if_pos trivial
    · rw [List.take_zero, e0]
      simp only [World.alloc, Array.getElem?_push, Array.size_push]
      exact if_pos trivial
  case round =>
    obtain ⟨k, hk, rfl, h0, h1, hbel, hsz⟩ := hrel
    by_cases hlt : k < n
    · have hkl : k < ks.length := by rw [← HN.out]; exact hlt
      obtain ⟨⟨s, hs⟩, hx⟩ := hc k hkl
      have hs2 : wr.cell? ⟨b, off + k * 2, none⟩ = some (.string s) := (hbel.cell (p := ⟨b, _, none⟩) hb).trans hs
      have hx2 : wr.cell? ⟨b, off + k * 2 + 1, none⟩ = some (.int .i64 (ks.getD k 0)) := (hbel.cell (p := ⟨b, _, none⟩) hb).trans hx
      clear hs hx hc
      generalize hxx : ks.getD k 0 = x at hx2
      have HX := Lib.hid hxx
      clear hxx
      have hfl := F_len (ks.take k)
      have hbd := F_bd (ks.take k) (kidx x)
      have htl : (ks.take k).length ≤ 60 := Nat.le_trans (List.length_take_le _ _) (by omega)
      have ha := arr_cell h1 (kidx x) (by rw [hfl]; exact kidx_lt x)
      have hf := arr_free h1 (kidx x)
      by_cases hx1 : x < 1
      · have hi : kidx x = 0 := if_pos (.inl hx1)
        rw [hi] at ha hf hbd
        obtain ⟨c, hcc⟩ : ∃ c, c = (F (ks.take k)).getD 0 0 := ⟨_, rfl⟩
        rw [← hcc] at ha hbd
        have HC := Lib.hid hcc
        have H0 := Lib.hid h0
        have H1 := Lib.hid h1
        have HI := Lib.hid hi
        clear hcc h0 h1 hfl hi
        have hc1 : 0 ≤ c := hbd.1
        have hc2 : c ≤ 60 := by omega
        clear hbd
        go_wp2
        go_roundw
        case rel =>
          have := kinds_step0 hkl HX.out H0.out H1.out hbel hsz 0 HI.out
          rw [← HC.out] at this
          exact ⟨k + 1, by omega, by go_num, this⟩
        case measure => simp [intOf]; omega
      · by_cases hx8 : 8 < x
        · have hi : kidx x = 0 := if_pos (.inr hx8)
          rw [hi] at ha hf hbd
          obtain ⟨c, hcc⟩ : ∃ c, c = (F (ks.take k)).getD 0 0 := ⟨_, rfl⟩
          rw [← hcc] at ha hbd
          have HC := Lib.hid hcc
          have H0 := Lib.hid h0
          have H1 := Lib.hid h1
          have HI := Lib.hid hi
          clear hcc h0 h1 hfl hi
          have hc1 : 0 ≤ c := hbd.1
          have hc2 : c ≤ 60 := by omega
          clear hbd
          go_wp2
          go_roundw
          case rel =>
            have := kinds_step0 hkl HX.out H0.out H1.out hbel hsz 0 HI.out
            rw [← HC.out] at this
            exact ⟨k + 1, by omega, by go_num, this⟩
          case measure => simp [intOf]; omega
        · obtain ⟨m, rfl⟩ : ∃ m : Nat, x = m := ⟨x.toNat, by omega⟩
          have hm1 : 1 ≤ m := by omega
          have hm8 : m ≤ 8 := by omega
          have hi : kidx (m : Int) = m := by unfold kidx; rw [if_neg (by omega)]; simp
          rw [hi] at ha hf hbd
          obtain ⟨c, hcc⟩ : ∃ c, c = (F (ks.take k)).getD m 0 := ⟨_, rfl⟩
          rw [← hcc] at ha hbd
          have HC := Lib.hid hcc
          have H0 := Lib.hid h0
          have H1 := Lib.hid h1
          have HI := Lib.hid hi
          clear hcc h0 h1 hfl hi
          have hc1 : 0 ≤ c := hbd.1
          have hc2 : c ≤ 60 := by omega
          clear hbd
          go_wp2
          go_roundw
          case rel =>
            have := kinds_step0 hkl HX.out H0.out H1.out hbel hsz m HI.out
            rw [← HC.out] at this
            exact ⟨k + 1, by omega, by go_num, this⟩
          case measure => simp [intOf]; omega
    · obtain rfl : k = n := by omega
      have H0 := Lib.hid h0
      have H1 := Lib.hid h1
      clear h0 h1
      have hT : ks.take k = ks := by rw [HN.out, List.take_length]
      have HT := Lib.hid hT
      clear hT
      have hz := arr_size (F_len (ks.take k))
      have hz0 := arr_size (F_len [])
      have hone := arr_one (F (ks.take k))
      have g1 := H1.out
      have g0 := H0.out
      generalize hA : arr (F (ks.take k)) = A at hz hone g1
      have HA := Lib.hid hA
      clear hA
      generalize arr (F []) = Z at hz0 g0
      have G0 := Lib.hid g0
      have G1 := Lib.hid g1
      have HZ : (Tryz.prog.info? 23).map (·.size) = some A.size := by rw [hz]; exact size23
      have HZ2 := Lib.hid HZ
      have Hz := Lib.hid hz
      have Hz0 := Lib.hid hz0
      have HO := Lib.hid hone
      clear g0 g1 HZ hz hz0 hone
      go_wp2_with (first | (refine wpList_load_row rfl 23 _ rfl (w.heap.size + 1) rfl 23 A (0, 0) _ G1.out Tryz.underlying23 rfl HZ2.out ?_) | (refine wpList_store_row rfl 23 _ _ rfl w.heap.size A rfl rfl 23 Z G0.out HZ2.out (Hz0.out.trans Hz.out.symm) HO.out ?_))
      refine bodyPost_ret (v := .agg A) (results_cell_row Tryz.results7 _ _ w.heap.size 23 A (0, 0) _ rfl (setRow_heap _ _ _ _ _ _ G0.out) Tryz.underlying23 rfl HZ2.out) rfl ⟨?_, below_setRow hbel (Nat.le_refl _) _⟩
      rw [← HA.out, HT.out]

set_option maxHeartbeats 1000000 in
set_option maxRecDepth 100000 in
theorem kinds_zero (a : Option Addr) (cap : Nat) (w : World) : Calls Tryz.prog 6 #[.slice a 0 cap] w fun e w' => e = .returned (.agg (arr (F []))) ∧ Below w.heap.size w w' := by
  go_enter Tryz.func6, Tryz.ntmps6
  go_wp2
  refine wp_loop_rounds 1 ?_
  rw [rounds_succ]
  go_wp2
  refine bodyPost_ret (v := .agg (arr (F []))) (by simp [results, Tryz.results6, go_sem, arr, F]) rfl ⟨rfl, ?_⟩
  first | exact ((Below.refl _ _).alloc (Nat.le_refl _) _).alloc (by simp) _ | exact (((Below.refl _ _).alloc (Nat.le_refl _) _).alloc (by simp) _).setCell (by simp) _
set_option maxHeartbeats 1000000 in
set_option maxRecDepth 100000 in
theorem rkinds_zero (a : Option Addr) (cap : Nat) (w : World) : Calls Tryz.prog 7 #[.slice a 0 cap] w fun e w' => e = .returned (.agg (arr (F []))) ∧ Below w.heap.size w w' := by
  go_enter Tryz.func7, Tryz.ntmps7
  go_wp2
  refine wp_loop_rounds 1 ?_
  rw [rounds_succ]
  go_wp2
  refine bodyPost_ret (v := .agg (arr (F []))) (by simp [results, Tryz.results7, go_sem, arr, F]) rfl ⟨rfl, ?_⟩
  first | exact ((Below.refl _ _).alloc (Nat.le_refl _) _).alloc (by simp) _ | exact (((Below.refl _ _).alloc (Nat.le_refl _) _).alloc (by simp) _).setCell (by simp) _
end Go.Proofs.YtakhkpgkbbcnhaaGreatDoor
