/- Seat ZD: AuditKinds: Harmless, the reference's, and the law's body. -/
import Derived.Test.YtakhkpgkbbcnhaaGreatDoorZDK
import Derived.Laws.StructEq
import Derived.Outline
namespace Go.Proofs.YtakhkpgkbbcnhaaGreatDoor
open Go.RowKit

def okK (k : Int) : Bool := k == 4 || k == 5 || k == 7 || k == 8
def S4 (l : List Int) : Int := l.getD 4 0 + l.getD 5 0 + l.getD 7 0 + l.getD 8 0
theorem list9 {l : List Int} (h : l.length = 9) : ∃ c0 c1 c2 c3 c4 c5 c6 c7 c8 : Int, l = [c0, c1, c2, c3, c4, c5, c6, c7, c8] := by
  match l, h with
  | [c0, c1, c2, c3, c4, c5, c6, c7, c8], _ => exact ⟨c0, c1, c2, c3, c4, c5, c6, c7, c8, rfl⟩
theorem S4_bump {l : List Int} (h : l.length = 9) (k : Int) : S4 (bump l k) = S4 l + if okK k then 1 else 0 := by
  obtain ⟨c0, c1, c2, c3, c4, c5, c6, c7, c8, rfl⟩ := list9 h
  have hk := kidx_lt k
  have hok : okK k = (kidx k == 4 || kidx k == 5 || kidx k == 7 || kidx k == 8) := by
    unfold okK kidx
    rw [Bool.eq_iff_iff]
    simp only [Bool.or_eq_true, beq_iff_eq]
    split <;> omega
  rw [hok]
  unfold S4 bump
  rcases (by omega : kidx k = 0 ∨ kidx k = 1 ∨ kidx k = 2 ∨ kidx k = 3 ∨ kidx k = 4 ∨ kidx k = 5 ∨ kidx k = 6 ∨ kidx k = 7 ∨ kidx k = 8) with e | e | e | e | e | e | e | e | e <;> rw [e] <;> simp <;> omega
theorem S4_take (ks : List Int) : ∀ k, k ≤ ks.length → S4 (F (ks.take k)) = ((ks.take k).countP okK : Int) := by
  intro k
  induction k with
  | zero => intro _; rfl
  | succ k ih =>
    intro hk
    rw [take_getD ks k hk, F_snoc, S4_bump (F_len _), ih (by omega), List.countP_append]
    simp only [List.countP_cons, List.countP_nil, Nat.zero_add, Int.natCast_add]
    split <;> rfl
theorem S4_all (ks : List Int) : (S4 (F ks) == (ks.length : Int)) = ks.all okK := by
  have h := S4_take ks ks.length (Nat.le_refl _)
  rw [List.take_length] at h
  rw [h, Bool.eq_iff_iff, beq_iff_eq, List.all_eq_true]
  constructor
  · intro e
    have : ks.countP okK = ks.length := by omega
    exact List.countP_eq_length.1 this
  · intro e
    rw [List.countP_eq_length.2 e]

def Sl (w : World) (v : Value) (ks : List Int) : Prop :=
  (ks = [] ∧ ∃ a cap, v = .slice a 0 cap) ∨ ∃ b off cap, v = .slice (some ⟨b, off, none⟩) ks.length cap ∧ ks.length ≤ 60 ∧ b < w.heap.size ∧ 0 < ks.length ∧ Probs w b off ks
theorem Sl.below {w w' : World} {v : Value} {ks : List Int} (h : Sl w v ks) (hb : Below w.heap.size w w') : Sl w' v ks := by
  rcases h with h | ⟨b, off, cap, rfl, h1, h2, h3, h4⟩
  · exact .inl h
  · exact .inr ⟨b, off, cap, rfl, h1, Nat.lt_of_lt_of_le h2 hb.size, h3, fun j hj => by
      obtain ⟨⟨s, hs⟩, hx⟩ := h4 j hj
      exact ⟨⟨s, (hb.cell (p := ⟨b, _, none⟩) h2).trans hs⟩, (hb.cell (p := ⟨b, _, none⟩) h2).trans hx⟩⟩
theorem kinds_any {w : World} {v : Value} {ks : List Int} (h : Sl w v ks) : Calls Tryz.prog 6 #[v] w fun e w' => e = .returned (.agg (arr (F ks))) ∧ Below w.heap.size w w' := by
  rcases h with ⟨rfl, a, cap, rfl⟩ | ⟨b, off, cap, rfl, h1, h2, h3, h4⟩
  · exact kinds_zero a cap w
  · exact kinds_some b off _ cap ks w rfl h1 h2 h3 h4
theorem rkinds_any {w : World} {v : Value} {ks : List Int} (h : Sl w v ks) : Calls Tryz.prog 7 #[v] w fun e w' => e = .returned (.agg (arr (F ks))) ∧ Below w.heap.size w w' := by
  rcases h with ⟨rfl, a, cap, rfl⟩ | ⟨b, off, cap, rfl, h1, h2, h3, h4⟩
  · exact rkinds_zero a cap w
  · exact rkinds_some b off _ cap ks w rfl h1 h2 h3 h4

theorem eql_int (d : Nat) (c : Int) (W : World) : (Op.equalIn (d + 1) 3 (.int .i64 c) (.int .i64 c)).run Tryz.prog W = .ok true W := by
  unfold Op.equalIn
  simp [run_underlying Tryz.underlying3]
theorem part_int (cs : Array Value) (i : Nat) (v : Value) (h : cs[i]? = some v) (W : World) : (part 3 cs i).run Tryz.prog W = .ok v W := by
  unfold part
  have ha : (isAgg 3).run Tryz.prog W = .ok false W := Tryz.isAgg3 W
  simp [ha, h]
theorem eql_arr (d : Nat) (c0 c1 c2 c3 c4 c5 c6 c7 c8 : Int) (W : World) :
    (Op.equalIn (d + 2) 23 (.agg #[.int .i64 c0, .int .i64 c1, .int .i64 c2, .int .i64 c3, .int .i64 c4, .int .i64 c5, .int .i64 c6, .int .i64 c7, .int .i64 c8]) (.agg #[.int .i64 c0, .int .i64 c1, .int .i64 c2, .int .i64 c3, .int .i64 c4, .int .i64 c5, .int .i64 c6, .int .i64 c7, .int .i64 c8])).run Tryz.prog W = .ok true W := by
  rw [show d + 2 = (d + 1) + 1 from rfl]
  conv => lhs; unfold Op.equalIn
  have hs : (sizeOf 3).run Tryz.prog W = .ok 1 W := Tryz.sizeOf3 W
  simp [run_underlying Tryz.underlying23, hs, List.range', part_int, eql_int]
theorem eql_law (c0 c1 c2 c3 c4 c5 c6 c7 c8 : Int) (W : World) :
    (binOp .eql 23 (.agg #[.int .i64 c0, .int .i64 c1, .int .i64 c2, .int .i64 c3, .int .i64 c4, .int .i64 c5, .int .i64 c6, .int .i64 c7, .int .i64 c8]) (.agg #[.int .i64 c0, .int .i64 c1, .int .i64 c2, .int .i64 c3, .int .i64 c4, .int .i64 c5, .int .i64 c6, .int .i64 c7, .int .i64 c8])).run Tryz.prog W = .ok (.bool true) W := by
  have h := eql_arr 9998 c0 c1 c2 c3 c4 c5 c6 c7 c8 W
  simp only [binOp, Op.equal, Op.maxDepth]
  simp [h]

theorem arr9 (c0 c1 c2 c3 c4 c5 c6 c7 c8 : Int) : arr [c0, c1, c2, c3, c4, c5, c6, c7, c8] = #[.int .i64 c0, .int .i64 c1, .int .i64 c2, .int .i64 c3, .int .i64 c4, .int .i64 c5, .int .i64 c6, .int .i64 c7, .int .i64 c8] := rfl

set_option maxHeartbeats 1000000 in
set_option maxRecDepth 100000 in
theorem harmless_any {w : World} (a : Option Addr) (n cap : Nat) {ks : List Int} (hn : n = ks.length) (hn60 : n ≤ 60) (h : Sl w (.slice a n cap) ks) :
    Calls Tryz.prog 8 #[.slice a n cap] w fun e w' => e = .returned (.bool (S4 (F ks) == (n : Int))) ∧ Below w.heap.size w w' := by
  have hk := kinds_any h
  obtain ⟨c0, c1, c2, c3, c4, c5, c6, c7, c8, hF⟩ := list9 (F_len ks)
  have b4 := F_bd ks 4
  have b5 := F_bd ks 5
  have b7 := F_bd ks 7
  have b8 := F_bd ks 8
  rw [hF] at hk b4 b5 b7 b8 ⊢
  rw [arr9] at hk
  simp only [List.getD_cons_succ, List.getD_cons_zero, ← hn] at b4 b5 b7 b8
  have x4 : 0 ≤ c4 := b4.1
  have x5 : 0 ≤ c5 := b5.1
  have x7 : 0 ≤ c7 := b7.1
  have x8 : 0 ≤ c8 := b8.1
  have y4 : c4 ≤ 60 := by omega
  have y5 : c5 ≤ 60 := by omega
  have y7 : c7 ≤ 60 := by omega
  have y8 : c8 ≤ 60 := by omega
  have HK := Lib.hid hk
  clear hk b4 b5 b7 b8 hF hn h
  show Calls Tryz.prog 8 #[.slice a n cap] w fun e w' => e = .returned (.bool (c4 + c5 + c7 + c8 == (n : Int))) ∧ Below w.heap.size w w'
  go_enter Tryz.func8, Tryz.ntmps8
  go_wp2_with (go_at_call 6; refine HK.out.mono ?_; rintro e w1 ⟨rfl, hb⟩)
  go_ret
  exact ⟨rfl, hb.alloc (by exact hb.size) _⟩

set_option maxHeartbeats 1000000 in
set_option maxRecDepth 100000 in
theorem rharmless_any {w : World} (a : Option Addr) (n cap : Nat) {ks : List Int} (hn : n = ks.length) (hn60 : n ≤ 60) (h : Sl w (.slice a n cap) ks) :
    Calls Tryz.prog 9 #[.slice a n cap] w fun e w' => e = .returned (.bool (ks.all okK)) ∧ w' = w := by
  have hc : ∀ k, k < n → ∃ b off, a = some ⟨b, off, none⟩ ∧ w.cell? ⟨b, off + k * 2 + 1, none⟩ = some (.int .i64 (ks.getD k 0)) := by
    intro k hk
    rcases h with ⟨rfl, _⟩ | ⟨b, off, cap', e, _, _, _, hp⟩
    · simp at hn; omega
    · simp only [Value.slice.injEq] at e
      exact ⟨b, off, e.1, (hp k (by omega)).2⟩
  have HN := Lib.hid hn
  have HC := Lib.hid hc
  clear h hn hc
  go_enter Tryz.func9, Tryz.ntmps9
  go_wp2
  go_loop [3] (fun i => ∃ k : Nat, k ≤ n ∧ i = .int .i64 k ∧ (ks.take k).all okK = true) (fun i => n - (intOf i).toNat)
  case atStart => exact ⟨0, Nat.zero_le _, rfl, rfl⟩
  case round =>
    obtain ⟨k, hk, rfl, hall⟩ := hrel
    have HA := Lib.hid hall
    clear hall
    by_cases hlt : k < n
    · obtain ⟨b, off, rfl, hx⟩ := HC.out k hlt
      have hkl : k < ks.length := by rw [← HN.out]; exact hlt
      have hts := take_getD ks k hkl
      generalize hxx : ks.getD k 0 = x at hx hts
      have HX := Lib.hid hxx
      have HT := Lib.hid hts
      clear hxx hts
      have step : okK x = true → (ks.take (k + 1)).all okK = true := fun e => by rw [HT.out, List.all_append, HA.out]; simp [e]
      have stop : okK x = false → ks.all okK = false := fun e => by
        rw [List.all_eq_false]
        refine ⟨x, ?_, by simp [e]⟩
        rw [← HX.out]
        simp [List.getD, List.getElem?_eq_getElem hkl]
      rcases (by omega : x = 4 ∨ x = 5 ∨ x = 7 ∨ x = 8 ∨ (x ≠ 4 ∧ x ≠ 5 ∧ x ≠ 7 ∧ x ≠ 8)) with rfl | rfl | rfl | rfl | ⟨q4, q5, q7, q8⟩
      · have ST := Lib.hid (step rfl)
        clear step stop
        go_wp2
        go_round
        case rel => exact ⟨k + 1, by omega, by go_num, ST.out⟩
        case measure => simp [intOf]; omega
      · have ST := Lib.hid (step rfl)
        clear step stop
        go_wp2
        go_round
        case rel => exact ⟨k + 1, by omega, by go_num, ST.out⟩
        case measure => simp [intOf]; omega
      · have ST := Lib.hid (step rfl)
        clear step stop
        go_wp2
        go_round
        case rel => exact ⟨k + 1, by omega, by go_num, ST.out⟩
        case measure => simp [intOf]; omega
      · have ST := Lib.hid (step rfl)
        clear step stop
        go_wp2
        go_round
        case rel => exact ⟨k + 1, by omega, by go_num, ST.out⟩
        case measure => simp [intOf]; omega
      · have ST := Lib.hid (stop (by simp [okK, q4, q5, q7, q8]))
        clear step stop
        have r4 : (x != 4) = true := by simp [q4]
        have r5 : (x != 5) = true := by simp [q5]
        have r7 : (x != 7) = true := by simp [q7]
        have r8 : (x != 8) = true := by simp [q8]
        clear q4 q5 q7 q8
        go_wp2
        go_ret
        exact ⟨by rw [ST.out]; rfl, rfl⟩
    · have hkn : k = n := by omega
      have HK := Lib.hid hkn
      clear hkn
      go_wp2
      go_ret
      refine ⟨?_, rfl⟩
      have e1 := HA.out
      rw [HK.out, HN.out, List.take_length] at e1
      rw [e1]
      rfl



set_option maxHeartbeats 4000000 in
set_option maxRecDepth 100000 in
theorem law_tail {w : World} (aw : ∀ W : World, Below w.heap.size w W → Calls Tryz.prog 10 #[] W fun e w' => e = .returned (.bool true) ∧ Below W.heap.size W w') (a0 a : Option Addr) (n0 n cap0 cap : Nat) {ks : List Int} (hn : n = ks.length) (hn60 : n ≤ 60) (h : Sl w (.slice a n cap) ks)
    (hcut : ∀ W : World, (Instr.slice 22 (.slice a0 n0 cap0) none (some (.int .i64 (n : Int))) none).run Tryz.prog W = .ok (.slice a n cap) W) (hmin : (n0 ≤ 60 ∧ n = n0) ∨ (60 < n0 ∧ n = 60)) :
    Calls Tryz.prog 3 #[.slice a0 n0 cap0] w fun e w' => e = .returned (.bool true) ∧ Below w.heap.size w w' := by
  have k1 := fun (W : World) (hb : Below w.heap.size w W) => kinds_any (h.below hb)
  have k2 := fun (W : World) (hb : Below w.heap.size w W) => rkinds_any (h.below hb)
  have k3 := fun (W : World) (hb : Below w.heap.size w W) => harmless_any a n cap hn hn60 (h.below hb)
  have k4 := fun (W : World) (hb : Below w.heap.size w W) => rharmless_any a n cap hn hn60 (h.below hb)
  have hall := S4_all ks
  rw [← hn] at hall
  obtain ⟨c0, c1, c2, c3, c4, c5, c6, c7, c8, hF⟩ := list9 (F_len ks)
  have hq := fun W => eql_law c0 c1 c2 c3 c4 c5 c6 c7 c8 W
  rw [← arr9, ← hF] at hq
  rw [hall] at k3
  generalize arr (F ks) = A at k1 k2 hq
  generalize ks.all okK = B at k3 k4
  have K1 := Lib.hid k1
  have K2 := Lib.hid k2
  have K3 := Lib.hid k3
  have K4 := Lib.hid k4
  have AW := Lib.hid aw
  clear k1 k2 k3 k4 aw hall hF h hn
  rcases hmin with ⟨h60, rfl⟩ | ⟨h60, rfl⟩
  · go_enter Tryz.func3, Tryz.ntmps3
    go_wp2_with fail
    refine (K1.out _ (Below.refl _ _)).mono ?_
    rintro e w1 ⟨rfl, hb1⟩
    go_wp2_with fail
    refine (K2.out _ hb1).mono ?_
    rintro e w2 ⟨rfl, hb2⟩
    have hb12 := hb1.trans (hb2.mono hb1.size)
    go_wp2_with fail
    refine (K3.out _ hb12).mono ?_
    rintro e w3 ⟨rfl, hb3⟩
    have hb13 := hb12.trans (hb3.mono hb12.size)
    go_wp2_with fail
    refine (K4.out _ hb13).mono ?_
    rintro e w4 ⟨rfl, rfl⟩
    have hbb : (B == B) = true := by simp
    go_wp2_with fail
    refine (AW.out _ hb13).mono ?_
    rintro e w5 ⟨rfl, hb5⟩
    go_wp2
    go_ret
    exact ⟨rfl, hb13.trans (hb5.mono hb13.size)⟩
  · have hcut2 : ∀ W : World, (Instr.slice 22 (.slice a0 n0 cap0) none (some (.int .i64 60)) none).run Tryz.prog W = .ok (.slice a 60 cap) W := hcut
    clear hcut
    go_enter Tryz.func3, Tryz.ntmps3
    go_wp2_with fail
    refine (K1.out _ (Below.refl _ _)).mono ?_
    rintro e w1 ⟨rfl, hb1⟩
    go_wp2_with fail
    refine (K2.out _ hb1).mono ?_
    rintro e w2 ⟨rfl, hb2⟩
    have hb12 := hb1.trans (hb2.mono hb1.size)
    go_wp2_with fail
    refine (K3.out _ hb12).mono ?_
    rintro e w3 ⟨rfl, hb3⟩
    have hb13 := hb12.trans (hb3.mono hb12.size)
    go_wp2_with fail
    refine (K4.out _ hb13).mono ?_
    rintro e w4 ⟨rfl, rfl⟩
    have hbb : (B == B) = true := by simp
    go_wp2_with fail
    refine (AW.out _ hb13).mono ?_
    rintro e w5 ⟨rfl, hb5⟩
    go_wp2
    go_ret
    exact ⟨rfl, hb13.trans (hb5.mono hb13.size)⟩
end Go.Proofs.YtakhkpgkbbcnhaaGreatDoor
