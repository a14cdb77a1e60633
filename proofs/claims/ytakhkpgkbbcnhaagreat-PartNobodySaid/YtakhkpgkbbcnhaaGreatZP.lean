/- Seat Z: PartNobody's run, with what short hands back as a row of holes. -/
import Derived.Test.YtakhkpgkbbcnhaaGreatZC
import Derived.Test.YtakhkpgkbbcnhaaGreatZS
namespace Go.Ev.Z
open Go Go.Ev Go.RowKit
open Go.Proofs.YtakhkpgkbbcnhaaGreat (ShortOut AllStr short_some short_empty)
set_option maxRecDepth 100000

def isH0 (l : List Value) : Bool :=
  match l with
  | [.chan (some 0)] => true
  | _ => false
def isE (l : List Value) : Bool :=
  match l with
  | [] => true
  | _ => false
noncomputable abbrev SN : SumsR := orS (oneS 13 isE (.bool true)) (rowS 5 isH0 9 1 [0, 1, 2, 3, 4, 5, 6])
def h1 : Value := .chan (some 1)
def ask : Value := .agg ⟨[h1, h1, h1, h1, h1, h1, .chan (some 0)]⟩
theorem law_true : allTrue (fv P SN 100000 (.call 3 [ask]) ⟨0, .leaf⟩) = true := by kernel_rfl

/-- The terms that came in. -/
def Terms (w : World) (t : Value) : Prop :=
  (∃ a cap, t = .slice a 0 cap) ∨
  ∃ (b off len cap : Nat) (ss : List ByteArray), t = .slice (some ⟨b, off, none⟩) len cap ∧ len ≤ maxLen ∧ len ≤ ss.length ∧ 0 < len ∧ ∀ j, j < ss.length → w.cell? ⟨b, off + j, none⟩ = some (.string (ss.getD j ByteArray.empty))
theorem cell_lt {w : World} {b o : Nat} {v : Value} (h : w.cell? ⟨b, o, none⟩ = some v) : b < w.heap.size := by
  rcases Nat.lt_or_ge b w.heap.size with hlt | hge
  · exact hlt
  · simp [World.cell?, Array.getElem?_eq_none hge] at h
theorem short_any (w : World) (t : Value) (ht : Terms w t) : Calls P 5 #[t] w (ShortOut w) := by
  rcases ht with ⟨a, cap, rfl⟩ | ⟨b, off, len, cap, ss, rfl, hm, hl, hpos, hc⟩
  · exact short_empty a cap w
  · exact short_some b off len cap ss w hm hl (cell_lt (hc 0 (by omega))) hpos hc

section
variable (W : World) (t : Value)
/-- The holes: 0 the terms; 1 whatever. -/
@[reducible] def holes : Holes := ⟨fun k v => k = 0 → v = t, fun k o => W.heap[k]? = some o⟩
theorem terms_base {w : World} (hb : ∀ (k : Nat) (o : Obj), W.heap[k]? = some o → w.heap[k]? = some o) (ht : Terms W t) : Terms w t := by
  rcases ht with h | ⟨b, off, len, cap, ss, rfl, hm, hl, hpos, hc⟩
  · exact .inl h
  · refine .inr ⟨b, off, len, cap, ss, rfl, hm, hl, hpos, fun j hj => ?_⟩
    have := hc j hj
    have hlt := cell_lt this
    simp only [World.cell?] at this ⊢
    rw [hb b _ (Array.getElem?_eq_getElem hlt)]
    rwa [Array.getElem?_eq_getElem hlt] at this
theorem out_row {w w' : World} {e : Ending} (h : ShortOut w e w') : letI := holes W t; retPost (fun v' w' => Below w.heap.size w w' ∧ IsRow 9 1 [0, 1, 2, 3, 4, 5, 6] w.heap.size v' w') e w' := by
  obtain ⟨v, k, xs, rfl, hk, hxl, hstr, hown, hb⟩ := h
  refine ⟨hb, ?_⟩
  obtain ⟨_, hcase⟩ := hown
  rcases hcase with ⟨rfl, _⟩ | ⟨g, cap, cur, rfl, hg, hh, hkc, _, hsz, htake⟩
  · exact .inl rfl
  · refine .inr ⟨g, k, cap, cur, ?_, rfl, hg, hh, hkc, by omega, fun i x hi hx => ?_⟩
    · simp only [List.mem_cons, List.not_mem_nil, or_false]; omega
    · have hx2 : x ∈ xs := by
        rw [← htake]
        refine List.mem_of_getElem? (i := i) ?_
        rw [List.getElem?_take, if_pos (by omega), Array.getElem?_toList]
        exact hx
      obtain ⟨s, rfl⟩ := hstr x hx2
      exact ⟨rfl, fun h => absurd h (by simp)⟩
theorem sums_law (ht : Terms W t) : letI := holes W t; SumsOk P (plainS SN) := by
  letI := holes W t
  refine orS_ok (oneS_ok ?_) (rowS_ok ?_)
  · intro ρ args args' w _ hargs hE
    have : args' = #[] := by
      have h0 : args.toList = [] := by
        cases hl : args.toList with
        | nil => rfl
        | cons x l => rw [hl] at hE; exact absurd hE (by simp [isE])
      have hsz : args'.size = 0 := by rw [← hargs.1, ← Array.length_toList, h0]; rfl
      exact Array.eq_empty_of_size_eq_zero hsz
    subst this
    refine (awake w).mono fun e w' => retPost_mono (fun v w' hv => ?_) e w'
    obtain ⟨rfl, hb⟩ := hv
    exact ⟨hb, fun σ => .bool true⟩
  · intro ρ args args' w hbase hargs hH
    have h0 : args.toList = [.chan (some 0)] := by
      unfold isH0 at hH
      split at hH
      · assumption
      · exact absurd hH (by simp)
    have hx : args[0]? = some (.chan (some 0)) := by rw [← Array.getElem?_toList, h0]; rfl
    have hsz : args'.size = 1 := by rw [← hargs.1, ← Array.length_toList, h0]; rfl
    obtain ⟨y, hy, hv⟩ := hargs.get hx
    have hyt : y = t := by
      cases hv with
      | hole k h is => exact is rfl
    have ha : args' = #[t] := by
      subst hyt
      refine Array.ext (by rw [hsz]; rfl) fun i hi hi' => ?_
      have : i = 0 := by simp at hi'; exact hi'
      subst this
      have := (Array.getElem?_eq_some_iff.1 hy).2
      simpa using this
    subst ha
    exact (callsIn_wide.2 (short_any w t (terms_base W t hbase ht))).mono fun e w' h => out_row W t h
theorem law (cs : Array Value) (hcs : cs.size = 7) (hone : ∀ (i : Nat) (v : Value), cs[i]? = some v → oneCell v = true) (h6 : cs[6]? = some t) (ht : Terms W t) :
    Calls P 3 #[.agg cs] W fun e w' => e = .returned (.bool true) ∧ Below W.heap.size W w' := by
  letI := holes W t
  obtain ⟨outs, e, hall⟩ := allTrue_some law_true
  refine (callsIn_wide.1 (run_law (namesOk_of names) (sums_law W t ht) e hall W (fun k o h => h) #[.agg cs] ?_)).mono fun e w' h => ?_
  · refine ⟨rfl, fun i x y hx hy => ?_⟩
    have hi : i = 0 := by
      have := (Array.getElem?_eq_some_iff.1 hy).1
      simpa using this
    subst hi
    simp only [List.getElem?_toArray, List.getElem?_cons_zero, Option.some.injEq] at hx hy
    subst hx; subst hy
    refine .agg (by simp [hcs]) fun j x y hx hy => ?_
    have hj : j < 7 := by rw [← hcs]; exact (Array.getElem?_eq_some_iff.1 hy).1
    have ho := hone j y hy
    rcases (by omega : j = 6 ∨ j < 6) with rfl | hj6
    · simp only [List.getElem?_toArray] at hx
      obtain rfl : Value.chan (some 0) = x := by simpa using hx
      exact .hole 0 ho fun _ => by rw [h6] at hy; exact (Option.some.inj hy).symm
    · have hx1 : x = h1 := by
        simp only [List.getElem?_toArray] at hx
        rcases (by omega : j = 0 ∨ j = 1 ∨ j = 2 ∨ j = 3 ∨ j = 4 ∨ j = 5) with rfl | rfl | rfl | rfl | rfl | rfl <;> simpa using hx.symm
      subst hx1
      exact .hole 1 ho fun h => absurd h (by simp)
  · cases e with
    | returned v =>
      obtain ⟨rfl, hb⟩ := h
      exact ⟨rfl, hb⟩
    | panicked _ => exact h.elim
    | outgrown => exact h.elim
end
end Go.Ev.Z
