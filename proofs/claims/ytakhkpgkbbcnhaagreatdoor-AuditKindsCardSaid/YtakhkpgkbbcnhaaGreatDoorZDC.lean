/- Seat ZD: from the listed variables to the start; a run from there, as a contract. -/
import Derived.Test.YtakhkpgkbbcnhaaGreatDoorZDB
import Derived.Test.YtakhkpgkbbcnhaaGreatDoorZDR
import Derived.Test.YtakhkpgkbbcnhaaGreatDoorZDW
namespace Go.Ev.ZD
open Go Go.Ev Go.RowKit
set_option maxRecDepth 100000

/-- What the listed variables hold. -/
structure Laid (W : World) : Prop where
  t3 : ∃ t, W.heap[3]? = some (.cells ⟨c_internal_strconv_uint64pow10⟩ t (0, 0))
  t4 : ∃ t, W.heap[4]? = some (.cells ⟨c_math_bits_deBruijn32tab⟩ t (0, 0))
  t5 : ∃ t, W.heap[5]? = some (.cells ⟨c_math_bits_deBruijn64tab⟩ t (0, 0))
  t1 : ∃ v t, W.heap[1]? = some (.cells #[v] t (0, 0)) ∧ oneCell v = true
  t2 : ∃ v t, W.heap[2]? = some (.cells #[v] t (0, 0)) ∧ oneCell v = true

/-- The holes: 10, 11 whatever the two errors are; others by a table of the law's own. -/
@[reducible] def holes (W : World) (is : Nat → Value → Prop) : Holes := ⟨fun k v => (k = 10 ∨ k = 11) ∨ is k v, fun k o => W.heap[k]? = some o⟩
def lens : Nat → Nat
  | 1 => 1
  | 2 => 1
  | 3 => 20
  | 4 => 32
  | 5 => 64
  | _ => 0
def emb0 : Emb := fun g => if g < 6 then some ⟨g, 0, lens g, lens g, 0, false⟩ else none
def facts0 (w : World) : Facts := ⟨w.tape, w.os, w.output, fun k o => w.heap[k]? = some o, fun _ => False⟩

theorem start_get : ∀ b o, start.get b = some o →
    (b = 1 ∧ o = ro [.chan (some 10)]) ∨ (b = 2 ∧ o = ro [.chan (some 11)]) ∨ (b = 3 ∧ o = ro c_internal_strconv_uint64pow10) ∨ (b = 4 ∧ o = ro c_math_bits_deBruijn32tab) ∨ (b = 5 ∧ o = ro c_math_bits_deBruijn64tab) := by
  intro b o h
  have hlt : b < 6 := by
    rcases Nat.lt_or_ge b 6 with hb | hb
    · exact hb
    · exfalso
      obtain ⟨n, rfl⟩ : ∃ n, b = n + 6 := ⟨b - 6, by omega⟩
      have key : ∀ n, start.get (n + 6) = none := by
        intro n
        unfold Heap.get start startTree
        simp only [Tree.get, cond_eq_ite, Nat.beq_eq]
        repeat' split
        all_goals first | rfl | omega
      rw [key] at h
      exact absurd h (by simp)
  rcases (by omega : b = 0 ∨ b = 1 ∨ b = 2 ∨ b = 3 ∨ b = 4 ∨ b = 5) with rfl | rfl | rfl | rfl | rfl | rfl
  · exact absurd h (by show start.get 0 ≠ some o; rw [show start.get 0 = none from rfl]; simp)
  · exact .inl ⟨rfl, (Option.some.inj h).symm⟩
  · exact .inr (.inl ⟨rfl, (Option.some.inj h).symm⟩)
  · exact .inr (.inr (.inl ⟨rfl, (Option.some.inj h).symm⟩))
  · exact .inr (.inr (.inr (.inl ⟨rfl, (Option.some.inj h).symm⟩)))
  · exact .inr (.inr (.inr (.inr ⟨rfl, (Option.some.inj h).symm⟩)))

theorem flat_pow : c_internal_strconv_uint64pow10.all (flat 3) = true := by decide
theorem flat_32 : c_math_bits_deBruijn32tab.all (flat 3) = true := by decide
theorem flat_64 : c_math_bits_deBruijn64tab.all (flat 3) = true := by decide
theorem tab_rel [Holes] {ρ : Emb} {l : List Value} (hf : l.all (flat 3) = true) (n : Nat) (hn : l.length = n) (g : Nat) (t : TypeId) :
    ORel ρ ⟨g, 0, n, n, 0, false⟩ (ro l) (.cells ⟨l⟩ t (0, 0)) := by
  refine ⟨rfl, rfl, by simp [hn], by simp [hn], by simp, fun i v v' hv hv' => ?_, .inl rfl⟩
  simp only [Nat.zero_add] at hv'
  rw [hv] at hv'
  obtain rfl := Option.some.inj hv'
  exact rel_of_flat 3 _ (List.all_eq_true.1 hf v (List.mem_of_getElem? (by simpa using hv)))
theorem err_rel (W : World) (is : Nat → Value → Prop) {ρ : Emb} {k : Nat} (hk : k = 10 ∨ k = 11) {v : Value} (hv : oneCell v = true) (g : Nat) (t : TypeId) :
    letI := holes W is; ORel ρ ⟨g, 0, 1, 1, 0, false⟩ (ro [.chan (some k)]) (.cells #[v] t (0, 0)) := by
  letI := holes W is
  refine ⟨rfl, rfl, rfl, rfl, by simp, fun i x x' hx hx' => ?_, .inl rfl⟩
  match i with
  | 0 => simp at hx hx'; subst hx; subst hx'; exact .hole k hv (.inl hk)
  | i + 1 => simp at hx

theorem start_inv {W : World} (hl : Laid W) (is : Nat → Value → Prop) : letI := holes W is; letI := G6; Inv (facts0 W) emb0 start W := by
  letI := holes W is
  letI := G6
  have hsz : 5 < W.heap.size := by
    obtain ⟨t, h⟩ := hl.t5
    exact (Array.getElem?_eq_some_iff.1 h).1
  have emb : ∀ b L, emb0 b = some L → b < 6 ∧ L = ⟨b, 0, lens b, lens b, 0, false⟩ := by
    intro b L h
    unfold emb0 at h
    split at h
    · rename_i hb; exact ⟨hb, (Option.some.inj h).symm⟩
    · exact absurd h (by simp)
  refine ⟨rfl, rfl, rfl, fun k o h => h, fun g hg => ⟨⟨g, 0, lens g, lens g, 0, false⟩, ?_, rfl, rfl⟩, fun k o h => h, fun b o L hb hL => ?_, fun b b' o o' L L' _ _ hL hL' hbb => ?_, fun b o L k o' hb _ _ hro => ?_, fun b L hL => ?_, fun b o hb => ?_, fun b h => h.elim⟩
  · exact if_pos (show g < 6 from hg)
  · obtain ⟨_, rfl⟩ := emb b L hL
    rcases start_get b o hb with ⟨rfl, rfl⟩ | ⟨rfl, rfl⟩ | ⟨rfl, rfl⟩ | ⟨rfl, rfl⟩ | ⟨rfl, rfl⟩
    · obtain ⟨v, t, h, ho⟩ := hl.t1
      exact ⟨_, h, err_rel W is (.inl rfl) ho 1 t⟩
    · obtain ⟨v, t, h, ho⟩ := hl.t2
      exact ⟨_, h, err_rel W is (.inr rfl) ho 2 t⟩
    · obtain ⟨t, h⟩ := hl.t3
      exact ⟨_, h, tab_rel flat_pow 20 rfl 3 t⟩
    · obtain ⟨t, h⟩ := hl.t4
      exact ⟨_, h, tab_rel flat_32 32 rfl 4 t⟩
    · obtain ⟨t, h⟩ := hl.t5
      exact ⟨_, h, tab_rel flat_64 64 rfl 5 t⟩
  · obtain ⟨_, rfl⟩ := emb b L hL
    obtain ⟨_, rfl⟩ := emb b' L' hL'
    exact hbb
  · exfalso
    rcases start_get b o hb with ⟨_, rfl⟩ | ⟨_, rfl⟩ | ⟨_, rfl⟩ | ⟨_, rfl⟩ | ⟨_, rfl⟩ <;> exact absurd hro (by decide)
  · obtain ⟨h6, rfl⟩ := emb b L hL
    exact ⟨h6, by show b < W.heap.size; omega⟩
  · rcases start_get b o hb with ⟨rfl, _⟩ | ⟨rfl, _⟩ | ⟨rfl, _⟩ | ⟨rfl, _⟩ | ⟨rfl, _⟩ <;> decide

theorem below_of_inv [Globs] [Holes] {w w' : World} {σ : Emb} {h : Heap} (i : Inv (facts0 w) σ h w') : Below w.heap.size w w' := by
  have hold : ∀ (k : Nat) (o : Obj), w.heap[k]? = some o → w'.heap[k]? = some o := fun k o hk => i.facts k o hk
  have hsz : w.heap.size ≤ w'.heap.size := by
    rcases Nat.lt_or_ge w'.heap.size w.heap.size with hlt | hge
    · have := hold w'.heap.size _ (Array.getElem?_eq_getElem hlt)
      rw [Array.getElem?_eq_none (Nat.le_refl _)] at this
      exact absurd this (by simp)
    · exact hge
  refine ⟨i.os, i.tape, i.output, hsz, fun k hk => ?_⟩
  rw [hold k _ (Array.getElem?_eq_getElem hk), Array.getElem?_eq_getElem hk]

/-- A run from the start: all outcomes are true. -/
theorem run_law {W : World} (hl : Laid W) (is : Nat → Value → Prop) {S : SumsR} (hS : letI := holes W is; letI := G6; SumsOk P (plainS S)) {n : Nat} {f : FuncId} {args : List Value} {outs : List OutR}
    (e : @fv G6 P S n (.call f args) start = some outs) (ht : ∀ o ∈ outs, ∃ h, o = .val (.bool true) h) (args' : Array Value) (hargs : letI := holes W is; VsRel emb0 ⟨args⟩ args') :
    Calls P f args' W fun e w' => e = .returned (.bool true) ∧ Below W.heap.size W w' := by
  letI := holes W is
  letI := G6
  have he := fv_gives P S n (.call f args) start _ e
  have hcalls : CallsIn Fence.wide 0 P f args' W (retPost fun v w' => v = .bool true ∧ Below W.heap.size W w') := by
    refine ev_sound (namesOk_of names) hS n (.call f ⟨args⟩) start _ he _ _ W (start_inv hl is) args' _ hargs ?_
    intro v h2 hm σ v' w' hle i' hv
    obtain ⟨o, ho, hov⟩ := List.mem_map.1 hm
    obtain ⟨h3, rfl⟩ := ht o ho
    simp only [OutR.out, Out.val.injEq] at hov
    obtain ⟨rfl, rfl⟩ := hov
    cases hv
    exact ⟨rfl, below_of_inv i'⟩
  refine (callsIn_wide.1 hcalls).mono fun e w' h => ?_
  cases e with
  | returned v =>
    obtain ⟨rfl, hb⟩ := h
    exact ⟨rfl, hb⟩
  | panicked _ => exact h.elim
  | outgrown => exact h.elim

open Go.Proofs.YtakhkpgkbbcnhaaGreatDoor (clone_any idx_any)
theorem idx_ok : FnOk P 191 idxG := by
  intro args v w e
  unfold idxG at e
  split at e
  · rename_i s c
    obtain rfl := Option.some.inj e
    refine (callsIn_wide.2 (idx_any s c w)).mono fun e w' h => ?_
    obtain ⟨rfl, rfl⟩ := h
    exact ⟨Below.refl _ _, rfl⟩
  · exact absurd e (by simp)
theorem clone_ok : FnOk P 250 cloneG := by
  intro args v w e
  unfold cloneG at e
  split at e
  · rename_i s
    split at e
    · rename_i hs
      obtain rfl := Option.some.inj e
      refine (callsIn_wide.2 (clone_any s w (by omega))).mono fun e w' h => ?_
      obtain ⟨rfl, hb⟩ := h
      exact ⟨hb, rfl⟩
    · exact absurd e (by simp)
  · exact absurd e (by simp)
theorem sums_base [Holes] : letI := G6; SumsOk P (plainS SA) := by
  letI := G6
  exact orS_ok (fnS_ok idx_ok) (fnS_ok clone_ok)

/-- AuditNobody. -/
theorem nobody {W : World} (hl : Laid W) (v : Value) (hv : oneCell v = true) : Calls P 4 #[v] W fun e w' => e = .returned (.bool true) ∧ Below W.heap.size W w' := by
  obtain ⟨outs, e, hall⟩ := allTrue_some nobody_true
  letI := holes W fun _ _ => True
  refine run_law hl (fun _ _ => True) sums_base e hall #[v] ⟨rfl, fun i x y hx hy => ?_⟩
  have hi : i = 0 := by
    have := (Array.getElem?_eq_some_iff.1 hy).1
    simpa using this
  subst hi
  simp only [List.getElem?_toArray, List.getElem?_cons_zero, Option.some.injEq] at hx hy
  subst hx; subst hy
  exact .hole 0 hv (.inr trivial)
end Go.Ev.ZD
