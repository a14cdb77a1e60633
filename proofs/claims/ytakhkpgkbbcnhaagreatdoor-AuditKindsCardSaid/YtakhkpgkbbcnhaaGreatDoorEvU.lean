/- The concrete evaluator, part U: what an operation gives rests on its operands alone. -/
import Derived.Test.YtakhkpgkbbcnhaaGreatDoorEvM
import Derived.OrdersIn
namespace Go.Ev
open Go
variable [Globs]

section
variable {P : Program} {ev ev' : Operand → Value}

omit [Globs] in
theorem map_congr_ev {xs : Array Operand} (h : ∀ x ∈ xs, ev x = ev' x) : xs.map ev = xs.map ev' := Array.map_congr_left h
omit [Globs] in
theorem pairs_congr {ps : Array (Nat × Operand)} (hp : ∀ x ∈ (ps.toList.map (·.2)).toArray, ev x = ev' x) : (ps.map fun (i, x) => (i, ev x)) = (ps.map fun (i, x) => (i, ev' x)) :=
  Array.map_congr_left fun p hm => by
    obtain ⟨i, x⟩ := p
    simp only [hp x (by simpa using ⟨i, by simpa using hm⟩)]
omit [Globs] in
theorem opt_congr {x : Option Operand} (h : ∀ y ∈ x.toList, ev y = ev' y) : x.map ev = x.map ev' := by
  cases x with
  | none => rfl
  | some y => simp [h y (by simp)]

theorem alight_congr {o : Oper} (h : ∀ x ∈ o.op.operands, ev x = ev' x) (hp : Heap) : alight P ev o hp = alight P ev' o hp := by
  obtain ⟨dst, op, ty, pos, after, guard⟩ := o
  cases op <;> simp only [Op.operands] at h <;> simp only [alight] <;> try rfl
  case move x => simp only [lMove, h x (by simp)]
  case assign x => simp only [lMove, h x (by simp)]
  case pick c x y => simp only [lPick, h c (by simp), h x (by simp), h y (by simp)]
  case build t ps => simp only [lBuild, pairs_congr h]
  case load t x => simp only [lLoad, h x (by simp)]
  case nilCheck x => simp only [lNil, h x (by simp)]
  case binOp op t x y yt => simp only [lBin, h x (by simp), h y (by simp)]
  case unOp op t x => simp only [lUn, h x (by simp)]
  case convert s d x => simp only [lConv, h x (by simp)]
  case makeInterface t x => simp only [lIface, h x (by simp)]
  case makeFunc fn xs ys =>
    simp only [lFunc, map_congr_ev (xs := xs) fun x hx => h x (by simp [hx]), map_congr_ev (xs := ys) fun x hx => h x (by simp [hx])]
  case slice t x lo hi mx =>
    simp only [lSlice]
    rw [h x (by simp), opt_congr (x := lo) fun y hy => h y (by simp at hy; simp [hy]), opt_congr (x := hi) fun y hy => h y (by simp at hy; simp [hy]), opt_congr (x := mx) fun y hy => h y (by simp at hy; simp [hy])]
  case fieldAddr s x f => simp only [lFieldAddr, h x (by simp)]
  case field s x f => simp only [lField, h x (by simp)]
  case indexAddr t x y => simp only [lIndexAddr, h x (by simp), h y (by simp)]
  case index t x y => simp only [lIndex, h x (by simp), h y (by simp)]
  case extract x i => simp only [lExtract, h x (by simp)]
  case call c =>
    obtain ⟨callee, args, tys⟩ := c
    obtain ⟨args⟩ := args
    obtain ⟨tys⟩ := tys
    have hargs : ∀ x ∈ args, ev x = ev' x := fun x hx => h x (by simp [Call.operands, hx])
    have hm : (⟨args⟩ : Array Operand).map ev = (⟨args⟩ : Array Operand).map ev' := map_congr_ev fun x hx => hargs x (by simpa using hx)
    cases callee with
    | builtin b =>
      cases b <;> simp only <;> try rfl
      · show lCap P ev _ _ _ = lCap P ev' _ _ _
        unfold lCap
        match args, tys, hargs with
        | [x], [t], hargs => simp only [hargs x (by simp)]
        | [x], [], _ => rfl
        | [x], _ :: _ :: _, _ => rfl
        | [], _, _ => rfl
        | _ :: _ :: _, _, _ => rfl
      · show lLen P ev _ _ _ = lLen P ev' _ _ _
        unfold lLen
        match args, tys, hargs with
        | [x], [t], hargs => simp only [hargs x (by simp)]
        | [x], [], _ => rfl
        | [x], _ :: _ :: _, _ => rfl
        | [], _, _ => rfl
        | _ :: _ :: _, _, _ => rfl
      · show lMax P ev _ _ _ = lMax P ev' _ _ _
        simp only [lMax, hm]
      · show lMin P ev _ _ _ = lMin P ev' _ _ _
        simp only [lMin, hm]
    | _ => rfl

theorem aalloc_congr {o : Oper} (h : ∀ x ∈ o.op.operands, ev x = ev' x) (hp : Heap) : aalloc P ev o hp = aalloc P ev' o hp := by
  obtain ⟨dst, op, ty, pos, after, guard⟩ := o
  cases op <;> simp only [Op.operands] at h <;> simp only [aalloc] <;> try rfl
  case box t x => simp only [h x (by simp)]
  case buildSlice t n ps => simp only [pairs_congr h]

theorem aheavy_congr {o : Oper} (h : ∀ x ∈ o.op.operands, ev x = ev' x) (hp : Heap) : aheavy P ev o hp = aheavy P ev' o hp := by
  obtain ⟨dst, op, ty, pos, after, guard⟩ := o
  cases op <;> simp only [Op.operands] at h <;> simp only [aheavy] <;> try rfl
  case store t x v => simp only [hStore, h x (by simp), h v (by simp)]
  case convert s d x => simp only [hConv, h x (by simp)]
  case makeMap t r => simp only [hMakeMap, opt_congr (x := r) fun y hy => h y (by simpa using hy)]
  case makeSlice t l c => simp only [hMakeSlice, h l (by simp), h c (by simp)]
  case range t x => simp only [hRange, h x (by simp)]
  case next it isS => simp only [hNext, h it (by simp)]
  case lookup t x k ok => simp only [hLookup, h x (by simp), h k (by simp)]
  case mapUpdate t m k v => simp only [hUpdate, h m (by simp), h k (by simp), h v (by simp)]
  case entry it => simp only [hEntry, h it (by simp)]
  case call c =>
    obtain ⟨callee, args, tys⟩ := c
    obtain ⟨args⟩ := args
    obtain ⟨tys⟩ := tys
    have hargs : ∀ x ∈ args, ev x = ev' x := fun x hx => h x (by simp [Call.operands, hx])
    have hm : (⟨args⟩ : Array Operand).map ev = (⟨args⟩ : Array Operand).map ev' := map_congr_ev fun x hx => hargs x (by simpa using hx)
    cases callee with
    | builtin b =>
      cases b <;> simp only <;> try rfl
      · show hAppend P ev _ _ _ = hAppend P ev' _ _ _
        unfold hAppend
        match args, tys, hargs with
        | [x, y], [t, tx], hargs => simp only [hargs x (by simp), hargs y (by simp)]
        | [x, y], [], _ => rfl
        | [x, y], [_], _ => rfl
        | [x, y], _ :: _ :: _ :: _, _ => rfl
        | [], _, _ => rfl
        | [_], _, _ => rfl
        | _ :: _ :: _ :: _, _, _ => rfl
      · show hDelete P ev _ _ _ = hDelete P ev' _ _ _
        unfold hDelete
        match args, tys, hargs with
        | [x, y], [t, tx], hargs => simp only [hargs x (by simp), hargs y (by simp)]
        | [x, y], [], _ => rfl
        | [x, y], [_], _ => rfl
        | [x, y], _ :: _ :: _ :: _, _ => rfl
        | [], _, _ => rfl
        | [_], _, _ => rfl
        | _ :: _ :: _ :: _, _, _ => rfl
    | value f =>
      have hf : ev f = ev' f := h f (by simp [Call.operands])
      show hCall P ev _ _ _ = hCall P ev' _ _ _
      simp only [hCall, hf, hm]
    | invoke r m =>
      have hr : ev r = ev' r := h r (by simp [Call.operands])
      show hInvoke P ev _ _ _ _ = hInvoke P ev' _ _ _ _
      simp only [hInvoke, hr, hm]

theorem aop_congr {o : Oper} (h : ∀ x ∈ o.op.operands, ev x = ev' x) (hp : Heap) : aop P ev o hp = aop P ev' o hp := by
  unfold aop
  rw [alight_congr h, aalloc_congr h, aheavy_congr h]
theorem aop_noSelect {o : Oper} {hp : Heap} {outs : List (Next × Heap)} (e : aop P ev o hp = some outs) : ∀ cs b, o.op ≠ .select cs b := by
  intro cs b ho
  obtain ⟨dst, op, ty, pos, after, guard⟩ := o
  simp only at ho
  subst ho
  simp [aop, alight, aalloc, aheavy] at e
end
end Go.Ev
