/- PART OF A PROOF: an evaluator over the model (its own text), and that it is sound: what it reckons, the machine does. No condition. -/
import Derived.Test.YtcbdaloghdidfabGreatDoorEvP3
namespace Go.Ev
open Go.RowKit
section
variable {P : Program} {S : Wd} {tm : Tr AV} {a : Act} {w : World}
theorem vrels_toList {xs : List AV} {vs : List Value} (h : VRels S xs vs) : ∀ (i : Nat) (x : AV), xs[i]? = some x → ∃ v, vs[i]? = some v ∧ VRel S x v := by
  induction xs generalizing vs with
  | nil => intro i x hx; simp at hx
  | cons y ys ih =>
    cases h with
    | cons _ v _ vs hv hs =>
      intro i x hx
      cases i with
      | zero => simp at hx; subst hx; exact ⟨v, rfl, hv⟩
      | succ i => simp at hx; exact ih hs i x hx
theorem places_run {P : Program} : ∀ {fs : List Field}, fieldsKnown P fs = true →
    ∃ ps : List (Nat × Nat), (fs.mapM fun f => (P.info? f.type).map fun i => (f.offset, i.size)) = some ps ∧ ∀ (i o s : Nat), (ob fs[i]? fun f : Field => ob (tsz P f.type) fun s => some (f.offset, s)) = some (o, s) → ps[i]? = some (o, s) := by
  intro fs
  induction fs with
  | nil => intro _; exact ⟨[], rfl, fun i o s h => by simp [ob] at h⟩
  | cons f fs ih =>
    intro h
    simp only [fieldsKnown, Bool.and_eq_true] at h
    obtain ⟨h1, h2⟩ := h
    obtain ⟨ps, e1, e2⟩ := ih h2
    cases hs : tsz P f.type with
    | none => rw [hs] at h1; cases h1
    | some s =>
      obtain ⟨i, hi, rfl⟩ := tsz_eq hs
      refine ⟨(f.offset, i.size) :: ps, by simp [hi, e1], fun j o s hj => ?_⟩
      cases j with
      | zero =>
        simp [ob, hs] at hj
        simp [hj]
      | succ j =>
        simp only [List.getElem?_cons_succ] at hj ⊢
        exact e2 j o s hj
theorem buildV_run {t : TypeId} {xs : List (Nat × AV)} {vs : Array (Nat × Value)} {r : AV} (hr : PRel S xs vs.toList) (h : buildV P t xs = some r) :
    ∃ v, (Instr.build t vs).run P w = .ok v w ∧ VRel S r v := by
  simp only [buildV, ob_eq] at h
  obtain ⟨z, hz, d, hd, h⟩ := h
  obtain ⟨zv, _, hzr, it, hit, hitz⟩ := zero_run (P := P) (w := w) (S := S) hz
  split at h
  · rename_i fs
    simp only [chk_eq, ob_eq, Option.some.injEq, Bool.and_eq_true] at h
    obtain ⟨⟨⟨h1, h2⟩, h3⟩, t', ht, rfl⟩ := h
    obtain ⟨ps, e1, e2⟩ := places_run (P := P) h1
    have hv := cells_of_rel hzr h3
    obtain ⟨cs, f1, f2⟩ := fill_rel (fieldPlaceA P fs) (ps.toArray[·]?) (fun i o s hp => by
      have hp' : (ob fs.toList[i]? fun f : Field => ob (tsz P f.type) fun s => some (f.offset, s)) = some (o, s) := by
        simpa [fieldPlaceA] using hp
      simpa using e2 i o s hp') hr hv ht
    have hb : P.built t vs.toList = some cs := by
      simp only [Program.built, hit, hd, hitz, e1]
      exact f1
    exact ⟨_, run_build w t vs cs hb, f2.agg⟩
  · rename_i n e
    simp only [chk_eq, ob_eq, Option.some.injEq, Bool.and_eq_true] at h
    obtain ⟨s, hs, ⟨h2, h3⟩, t', ht, rfl⟩ := h
    obtain ⟨ie, hie, rfl⟩ := tsz_eq hs
    have hv := cells_of_rel hzr h3
    obtain ⟨cs, f1, f2⟩ := fill_rel (fun i => some (i * ie.size, ie.size)) (fun i => some (i * ie.size, ie.size)) (fun _ _ _ h => h) hr hv ht
    have hb : P.built t vs.toList = some cs := by
      simp only [Program.built, hit, hd, hitz, hie]
      exact f1
    exact ⟨_, run_build w t vs cs hb, f2.agg⟩
  · cases h

theorem val_run {s : Sem Value} {v : Value} (h : s.run P w = .ok v w) : (do pure (Next.value (← s)) : Sem Next).run P w = .ok (.value v) w := by
  simp [h]
theorem pair_val {s : Sem Value} {r : AV} (h : ∃ v, s.run P w = .ok v w ∧ VRel S r v) : ∃ v', (do pure (Next.value (← s)) : Sem Next).run P w = .ok (.value v') w ∧ VRel S r v' :=
  let ⟨v, h1, h2⟩ := h; ⟨v, val_run h1, h2⟩

theorem evP_run {o : Oper} {r : AV} (hO : ∀ x ∈ o.op.operands.toList, ORel P S tm a x) (hc : cls P o.op = .p) (he : evP P tm o.op = some r) :
    ∃ v', (execOp a.eval o).run P w = .ok (.value v') w ∧ VRel S r v' := by
  obtain ⟨dst, op, type, pos, after, guard⟩ := o
  simp only at hO hc he
  cases op with
  | move x => exact ⟨_, rfl, hO x (by simp [Op.operands]) r he⟩
  | assign x => exact ⟨_, rfl, hO x (by simp [Op.operands]) r he⟩
  | pick c x y =>
    simp only [evP, ob_eq] at he
    obtain ⟨b, hb, he⟩ := he
    have rb := hO c (by simp [Op.operands]) _ hb
    split at he
    · rename_i t
      have hcv : a.eval c = .bool t := by generalize a.eval c = u at rb; cases rb; rfl
      cases t with
      | true => exact ⟨a.eval x, by simp [execOp, hcv, asBool], hO x (by simp [Op.operands]) r he⟩
      | false => exact ⟨a.eval y, by simp [execOp, hcv, asBool], hO y (by simp [Op.operands]) r he⟩
    · cases he
  | build t ps =>
    simp only [evP, ob_eq] at he
    obtain ⟨vs, hvs, he⟩ := he
    have hr := evParts_rel (a := a) (fun p hp => hO p.2 (by simp only [Op.operands, List.mem_map]; exact ⟨p, hp, rfl⟩)) hvs
    exact pair_val (buildV_run (vs := ps.map fun (i, x) => (i, a.eval x)) (by simpa using hr) he)
  | nilCheck x =>
    simp only [evP, ob_eq] at he
    obtain ⟨v, hv, he⟩ := he
    have rv := hO x (by simp [Op.operands]) _ hv
    generalize hu : a.eval x = u at rv
    split at he
    · cases he
      cases rv
      rename_i c hA
      exact ⟨.pointer (some c), by simp [execOp, hu], .ptr _ _ hA⟩
    · cases he
      have rv' := rv
      cases rv with
      | func _ f' xs ys xs' ys' hf hx hy =>
        cases hf
        exact ⟨_, by simp [execOp, hu], rv'⟩
    · cases he
      have rv' := rv
      cases rv with
      | func _ f' xs ys xs' ys' hf hx hy =>
        cases hf
        exact ⟨_, by simp [execOp, hu], rv'⟩
    · cases he
  | binOp op t x y yt =>
    simp only [evP, ob_eq] at he
    obtain ⟨v, hv, u, hu, he⟩ := he
    exact pair_val (binop_run (hO x (by simp [Op.operands]) _ hv) (hO y (by simp [Op.operands]) _ hu) he)
  | unOp op t x =>
    simp only [evP, ob_eq] at he
    obtain ⟨v, hv, he⟩ := he
    exact pair_val (aUn_run (hO x (by simp [Op.operands]) _ hv) he)
  | convert s d x =>
    simp only [evP, ob_eq] at he
    obtain ⟨sd, hsd, v, hv, he⟩ := he
    exact pair_val (convP_run (hO x (by simp [Op.operands]) _ hv) he ⟨sd, hsd⟩)
  | makeFunc fn fs cs =>
    simp only [evP, ob_eq] at he
    obtain ⟨xs, hxs, ys, hys, he⟩ := he
    split at he
    · cases he
      rename_i f
      have r1 := evOs_rel (a := a) (fun x hx => hO x (by show x ∈ (fs ++ cs).toList; rw [Array.toList_append]; exact List.mem_append_left _ hx)) hxs
      have r2 := evOs_rel (a := a) (fun x hx => hO x (by show x ∈ (fs ++ cs).toList; rw [Array.toList_append]; exact List.mem_append_right _ hx)) hys
      refine ⟨.func (.func f) (fs.map a.eval) (cs.map a.eval), rfl, ?_⟩
      have e1 : fs.map a.eval = (fs.toList.map a.eval).toArray := Array.ext' (by simp)
      have e2 : cs.map a.eval = (cs.toList.map a.eval).toArray := Array.ext' (by simp)
      rw [e1, e2]
      exact .func _ _ _ _ _ _ (.func f) r1 r2
    · cases he
  | slice t x lo hi mx =>
    simp only [evP, ob_eq] at he
    obtain ⟨v, hv, l, hl, h, hh, m, hm, he⟩ := he
    have conv : ∀ {z : Option Operand} {r : Option AV}, (∀ y, z = some y → ORel P S tm a y) → evOpt P tm z = some r → OptRel S r (z.map a.eval) := by
      intro z r h1 h2
      have := evOpt_rel (a := a) h1 h2
      cases r with
      | none => simp only at this; subst this; rfl
      | some u => obtain ⟨y, rfl, h3⟩ := this; exact ⟨_, rfl, h3⟩
    refine pair_val (slc_run (hO x ?_ _ hv) (conv ?_ hl) (conv ?_ hh) (conv ?_ hm) he)
    · simp [Op.operands]
    · rintro y rfl; exact hO y (by simp [Op.operands])
    · rintro y rfl; exact hO y (by simp [Op.operands])
    · rintro y rfl; exact hO y (by simp [Op.operands])
  | fieldAddr s x f =>
    simp only [evP, ob_eq] at he
    obtain ⟨v, hv, he⟩ := he
    have rv := hO x (by simp [Op.operands]) _ hv
    generalize hu : a.eval x = u at rv
    split at he
    · simp only [ob_eq, chk_eq, Option.some.injEq] at he
      obtain ⟨fd, hfd, z, hz, h1, rfl⟩ := he
      cases rv
      rename_i c hA
      have h1 : 1 ≤ z := by simpa using h1
      unfold fieldAt at hfd
      split at hfd
      · rename_i fs hfs
        have hz0 : z ≠ 0 := by omega
        exact ⟨.pointer (some (c.add fd.offset)), by simp [execOp, hu, Instr.fieldAt, und_run hfs, hfd, Instr.sureAddr, fieldPlace, size_run hz, hz0], .ptr _ _ (hA.move _)⟩
      · cases hfd
    · cases he
  | field t x f =>
    simp only [evP, ob_eq] at he
    obtain ⟨v, hv, he⟩ := he
    have rv := hO x (by simp [Op.operands]) _ hv
    generalize hu : a.eval x = u at rv
    split at he
    · simp only [ob_eq] at he
      obtain ⟨fd, hfd, he⟩ := he
      obtain ⟨cs, rfl, hvs⟩ := agg_vals rv
      obtain ⟨v', r1, r2⟩ := part_rel (w := w) hvs he
      unfold fieldAt at hfd
      split at hfd
      · rename_i fs hfs
        exact ⟨v', by simp [execOp, hu, Instr.field, und_run hfs, hfd, asAgg, r1], r2⟩
      · cases hfd
    · cases he
  | indexAddr t x i =>
    simp only [evP, ob_eq] at he
    obtain ⟨v, hv, u, hu, he⟩ := he
    exact pair_val (idx_run (hO x (by simp [Op.operands]) _ hv) (hO i (by simp [Op.operands]) _ hu) he)
  | index t x i =>
    simp only [evP, ob_eq] at he
    obtain ⟨v, hv, u, hu, he⟩ := he
    exact pair_val (idxV_run (hO x (by simp [Op.operands]) _ hv) (hO i (by simp [Op.operands]) _ hu) he)
  | extract t i =>
    simp only [evP, ob_eq] at he
    obtain ⟨v, hv, he⟩ := he
    have rv := hO t (by simp [Op.operands]) _ hv
    generalize hu : a.eval t = u at rv
    split at he
    · rename_i vs
      cases rv
      rename_i vs' hvs
      obtain ⟨v', h1, h2⟩ := vrels_toList hvs i r he
      exact ⟨v', by simp [execOp, hu, Instr.extract, h1], h2⟩
    · cases he
  | call c =>
    simp only [evP, ob_eq] at he
    obtain ⟨vs, hvs, he⟩ := he
    have r1 := evOs_rel (a := a) (fun x hx => hO x (by simp only [Op.operands, Call.operands, Array.toList_append, List.mem_append]; exact .inr hx)) hvs
    obtain ⟨callee, args, ats⟩ := c
    simp only at he hvs r1
    split at he
    · rename_i b
      have hres : ∀ (s : Sem Value), (∀ cb, builtin b ats type cb (args.map a.eval) = (do pure (Next.value (← s)))) →
          (execOp a.eval ⟨dst, .call ⟨.builtin b, args, ats⟩, type, pos, after, guard⟩).run P w = (do pure (Next.value (← s)) : Sem Next).run P w := by
        intro s hs
        simp only [execOp, resolve, Sem.run_bind, Sem.run_pure, Result.andThen_ok, invoke]
        rw [hs]
        simp
      have eargs : args.map a.eval = (args.toList.map a.eval).toArray := Array.ext' (by simp)
      unfold evBuiltP at he
      split at he
      · unfold evLenP at he
        split at he
        · rename_i v
          simp only [ob_eq, Option.some.injEq] at he
          obtain ⟨t, ht, n, hn, rfl⟩ := he
          have hone : ∃ v', args.map a.eval = #[v'] ∧ VRel S v v' := by
            rw [eargs]
            generalize args.toList.map a.eval = us at r1
            cases r1 with
            | cons _ v' _ _ hv hs => cases hs; exact ⟨v', rfl, hv⟩
          obtain ⟨v', e, hv'⟩ := hone
          exact ⟨_, by rw [hres (Builtin.len_ ats type (args.map a.eval)) (fun _ => rfl), e]; exact val_run (lenP_run ht hv' hn), .int _ _⟩
        · cases he
      · unfold mmxs at he
        split at he
        · cases he
        · rename_i x xs
          simp only [chk_eq] at he
          obtain ⟨hi, he⟩ := he
          rw [eargs] at hres
          generalize args.toList.map a.eval = us at r1 hres
          cases r1 with
          | cons _ v _ us hv hs =>
            cases hv with
            | int k n =>
              obtain ⟨u, h1, h2⟩ := mmx_run (w := w) hs he
              exact ⟨u, by rw [hres (Builtin.min_ ats type (Value.int k n :: us).toArray) (fun _ => rfl)]; exact val_run (by simpa [Builtin.min_] using h1), h2⟩
            | _ => cases hi
      · unfold mmxs at he
        split at he
        · cases he
        · rename_i x xs
          simp only [chk_eq] at he
          obtain ⟨hi, he⟩ := he
          rw [eargs] at hres
          generalize args.toList.map a.eval = us at r1 hres
          cases r1 with
          | cons _ v _ us hv hs =>
            cases hv with
            | int k n =>
              obtain ⟨u, h1, h2⟩ := mmx_run (w := w) hs he
              exact ⟨u, by rw [hres (Builtin.max_ ats type (Value.int k n :: us).toArray) (fun _ => rfl)]; exact val_run (by simpa [Builtin.max_] using h1), h2⟩
            | _ => cases hi
      · cases he
    · cases he
  | _ => cases he
end
end Go.Ev
