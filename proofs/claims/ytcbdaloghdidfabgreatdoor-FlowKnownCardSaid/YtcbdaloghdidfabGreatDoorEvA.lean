/- PART OF A PROOF: an evaluator over the model (its own text), and that it is sound: what it reckons, the machine does. No condition. -/
import Derived.Test.YtcbdaloghdidfabGreatDoorEvR
import Derived.Laws.MakeOwn
import Derived.Great.BuildSlice
namespace Go.Ev
open Go.RowKit
section
variable {P : Program} {B z : Nat} {S : Wd} {tm : Tr AV} {a : Act}

theorem repZ_get {zn : Nat} {z : Tr AV} : ∀ {k i : Nat} {acc r : Tr AV}, repZ zn z k i acc = some r →
    (∀ j, j < k → ∃ v, z.get ((i + j) % zn) = some v) ∧ ∀ m, r.get m = if i ≤ m ∧ m < i + k then z.get (m % zn) else acc.get m := by
  intro k
  induction k with
  | zero =>
    intro i acc r h
    cases h
    exact ⟨fun j hj => absurd hj (Nat.not_lt_zero _), fun m => by rw [if_neg (by omega)]⟩
  | succ k ih =>
    intro i acc r h
    simp only [repZ, ob_eq] at h
    obtain ⟨v, hv, h⟩ := h
    have hv : z.get (i % zn) = some v := hv
    obtain ⟨h1, h2⟩ := ih h
    refine ⟨fun j hj => ?_, fun m => ?_⟩
    · cases j with
      | zero => exact ⟨v, hv⟩
      | succ j =>
        obtain ⟨u, hu⟩ := h1 j (by omega)
        exact ⟨u, by rw [← hu]; congr 2; omega⟩
    · rw [h2 m, Tr.get_set]
      by_cases hm : m = i
      · subst hm
        rw [if_neg (by omega), if_pos rfl, if_pos (by omega), hv]
      · rw [if_neg hm]
        by_cases hr : i + 1 ≤ m ∧ m < i + 1 + k
        · rw [if_pos hr, if_pos (by omega)]
        · rw [if_neg hr, if_neg (by omega)]
theorem zeros_rel {e : TypeId} {n : Nat} {zt : Tr AV} (h : zeros P e n = some zt) :
    ∃ i z, P.info? e = some i ∧ i.zero = some z ∧ Vals S zt n (madeCells z.cells n).toList := by
  simp only [zeros, ob_eq, chk_eq, Bool.and_eq_true] at h
  obtain ⟨x, hx, ⟨ht, h0⟩, h⟩ := h
  have h0 : 1 ≤ cnt x := by simpa using h0
  obtain ⟨z, _, hz, i, hi, hiz⟩ := zero_run (P := P) (w := S.w) (S := S) hx
  refine ⟨i, z, hi, hiz, by simp [madeCells], fun j hj => ?_⟩
  obtain ⟨h1, h2⟩ := repZ_get h
  obtain ⟨y, hy⟩ := h1 j hj
  rw [Nat.zero_add] at hy
  have hv := cells_of_rel hz ht
  have hlen : z.cells.size = cnt x := by simpa using hv.1
  obtain ⟨u, v, g1, g2, g3, g4⟩ := hv.2 (j % cnt x) (Nat.mod_lt _ (by omega))
  rw [hy] at g1
  cases g1
  refine ⟨y, v, by rw [h2 j, if_pos (by omega), hy], g2, ?_, g4⟩
  have hlt : j % cnt x < z.cells.size := by rw [hlen]; exact Nat.mod_lt _ (by omega)
  have g3' : z.cells[j % cnt x] = v := by
    have : z.cells[j % cnt x]? = some v := by simpa using g3
    rw [Array.getElem?_eq_getElem hlt] at this
    exact Option.some.inj this
  have hlt' : j % z.cells.size < z.cells.size := by rw [hlen] at hlt ⊢; exact hlt
  have e : z.cells[j % z.cells.size]! = v := by
    rw [getElem!_pos z.cells (j % z.cells.size) hlt']
    simp only [hlen]
    exact g3'
  simp only [madeCells, Array.toList_map, List.getElem?_map, Array.getElem?_toList]
  simp [hj, e]

/-- A fixed row, laid. -/
theorem laid_fixed {G B : Nat} {n : Nat} {t : Tr AV} {cs : Array Value} {ty : TypeId} (h : Rel G B S) (hz : ¬ S.H.al z) (hv : Vals S t n cs.toList) :
    ObjRel (S.new z (.cells n t (.fixed false)) (.cells cs ty)) B z (.cells n t (.fixed false)) := by
  refine ⟨cs, ty, (0, 0), ?_, ?_⟩
  · rw [new_μ_nx]; exact heap_alloc_new _ _
  · refine ⟨by rw [new_μ_nx], by simpa using hv.1, ?_, fun _ => ⟨by rw [new_μ_nx]; exact h.base, rfl⟩⟩
    intro i _ hi
    obtain ⟨x, v, g1, g2, g3, g4⟩ := hv.2 i hi
    exact ⟨x, v, g1, g2, by simpa using g3, g4.later (stp_new h hz).later⟩
theorem laid_ptr {o : AO} {obj : Obj} (ho : ∀ n t k, o = .cells n t k → ∃ ro, k = .fixed ro) :
    ARel (S.new z o obj) ⟨z, 0, 0, 0⟩ ⟨S.w.heap.size, 0, none⟩ := by
  refine ⟨by simp [Wd.new, SH.newAt], Nat.le_refl _, rfl, fun n t k hg => ?_⟩
  have hg : (S.new z o obj).H.g z = some (.cells n t k) := hg
  rw [new_g_nx] at hg
  cases hg
  obtain ⟨ro, rfl⟩ := ho n t k rfl
  refine ⟨?_, rfl⟩
  show S.w.heap.size = ((S.new z _ obj).μ z).1
  rw [new_μ_nx]

/-- An operation that lays a new block. -/
def ALay (P : Program) (B z : Nat) (S : Wd) (ao : AO) (pk : Pk) (s : Sem Value) : Prop :=
  ∃ obj v', s.run P S.w = .ok v' (S.w.alloc obj) ∧ ObjRel (S.new z ao obj) B z ao ∧ VRel (S.new z ao obj) (pk.at z) v'
theorem box_run {t : TypeId} {x : AV} {v : Value} {ao : AO} {pk : Pk} (h : Rel P.globals.size B S) (hz : ¬ S.H.al z) (hx : VRel S x v) (he : boxA x = some (ao, pk)) : ALay P B z S ao pk (Instr.box t v) := by
  simp only [boxA, chk_eq, Option.some.injEq, Prod.mk.injEq] at he
  obtain ⟨ht, rfl, rfl⟩ := he
  have hv := cells_of_rel hx ht
  exact ⟨.cells v.cells t, _, by simp [Instr.box, newVar, newRow], laid_fixed h hz hv, .ptr _ _ (laid_ptr (z := z) fun n t k e => by cases e; exact ⟨_, rfl⟩)⟩
theorem buildSl_run {t : TypeId} {n : Nat} {xs : List (Nat × AV)} {vs : Array (Nat × Value)} {ao : AO} {pk : Pk} (h : Rel P.globals.size B S) (hz : ¬ S.H.al z) (hr : PRel S xs vs.toList) (he : buildSlA P t n xs = some (ao, pk)) :
    ALay P B z S ao pk (Instr.buildSlice t n vs) := by
  simp only [buildSlA, ob_eq] at he
  obtain ⟨d, hd, he⟩ := he
  split at he
  · rename_i e
    simp only [ob_eq, chk_eq, Option.some.injEq, Prod.mk.injEq] at he
    obtain ⟨s, hs, h1, q, hq, t', ht, rfl, rfl⟩ := he
    have h1 : n * s ≤ 16777216 := by simpa using h1
    obtain ⟨i, zv, hi, hiz, hv⟩ := zeros_rel (S := S) hq
    obtain ⟨cs', c1, c2⟩ := fill_rel (fun i => some (i * s, s)) (fun i => some (i * s, s)) (fun _ _ _ h => h) hr hv ht
    obtain ⟨i', hi', rfl⟩ := tsz_eq hs
    rw [hi] at hi'
    cases hi'
    refine ⟨.cells cs' e, _, ?_, laid_fixed h hz c2, .slice _ _ _ _ _ _ (laid_ptr (z := z) fun n t k e => by cases e; exact ⟨_, rfl⟩) ⟨Nat.le_refl _, fun _ => rfl, Nat.le_refl _, fun e => (e rfl).elim⟩⟩
    by_cases hn : n * i.size = 0
    · have hm : (Array.range (n * i.size)).map ((#[] : Array Value)[· % (#[] : Array Value).size]!) = madeCells zv.cells (n * i.size) := by simp [hn, madeCells, Array.range_zero']
      rw [← hm] at c1
      simp only [Instr.buildSlice, Sem.run_bind, und_run hd, Result.andThen_ok, size_run hs]
      rw [if_neg (by omega), if_pos hn]
      simp only [Sem.run_bind, Sem.run_pure, Result.andThen_ok, c1]
      simp [newRow]
    · have := run_buildSlice (P := P) S.w t e n vs cs' i zv hd hi hiz (by omega) hn c1
      exact this
  · cases he
theorem makeSl_run {t : TypeId} {l c : AV} {vl vc : Value} {ao : AO} {pk : Pk} (h : Rel P.globals.size B S) (hz : ¬ S.H.al z) (hl : VRel S l vl) (hc : VRel S c vc) (he : makeSlA P t l c = some (ao, pk)) :
    ALay P B z S ao pk (Instr.makeSlice t vl vc) := by
  simp only [makeSlA, ob_eq] at he
  obtain ⟨d, hd, he⟩ := he
  split at he
  · rename_i e
    simp only [ob_eq, chk_eq, Option.some.injEq, Prod.mk.injEq, Bool.and_eq_true] at he
    obtain ⟨i, hi, l', hl', c', hc', ⟨⟨h1, h2⟩, h3⟩, q, hq, rfl, rfl⟩ := he
    have h1 : l' ≤ c' := by simpa using h1
    have h2 : c' ≤ 1000000 := by simpa using h2
    have h3 : i.bytes ≤ 100000 := by simpa using h3
    obtain ⟨kl, rfl⟩ := natOf_rel hl hl'
    obtain ⟨kc, rfl⟩ := natOf_rel hc hc'
    obtain ⟨i', zv, hi', hiz, hv⟩ := zeros_rel (S := S) hq
    rw [hi] at hi'
    cases hi'
    have hm : i.bytes * c' ≤ 100000 * 1000000 := Nat.mul_le_mul h3 h2
    have := run_make (P := P) S.w t e i zv hd hi hiz kl kc l' c' (by omega) (by omega) (by omega) (by omega)
    simp only [Int.toNat_natCast] at this
    exact ⟨_, _, this, laid_fixed h hz hv, .slice _ _ _ _ _ _ (laid_ptr (z := z) fun n t k e => by cases e; exact ⟨_, rfl⟩) ⟨h1, fun _ => rfl, Nat.le_refl _, fun e => (e rfl).elim⟩⟩
  · cases he
theorem alay_val {ao : AO} {pk : Pk} {s : Sem Value} (h : ALay P B z S ao pk s) :
    ∃ obj v', (do pure (Next.value (← s)) : Sem Next).run P S.w = .ok (.value v') (S.w.alloc obj) ∧ ObjRel (S.new z ao obj) B z ao ∧ VRel (S.new z ao obj) (pk.at z) v' :=
  let ⟨obj, v', r, x⟩ := h; ⟨obj, v', by simp [r], x⟩
theorem evA_run {o : Oper} {ao : AO} {pk : Pk} (h : Rel P.globals.size B S) (hz : ¬ S.H.al z) (hO : ∀ x ∈ o.op.operands.toList, ORel P S tm a x) (he : evA P tm o.op = some (ao, pk)) :
    ∃ obj v', (execOp a.eval o).run P S.w = .ok (.value v') (S.w.alloc obj) ∧ ObjRel (S.new z ao obj) B z ao ∧ VRel (S.new z ao obj) (pk.at z) v' := by
  obtain ⟨dst, op, type, pos, after, guard⟩ := o
  simp only at hO he
  cases op with
  | alloc t =>
    simp only [evA, ob_eq] at he
    obtain ⟨q, hq, he⟩ := he
    obtain ⟨zv, hz1, hz2, _⟩ := zero_run (P := P) (w := S.w) (S := S) hq
    refine alay_val (s := Instr.alloc t true (.tuple #[])) ?_
    obtain ⟨obj, v', r1, r2⟩ := box_run (t := t) h hz hz2 he
    refine ⟨obj, v', ?_, r2⟩
    rw [← r1]
    simp [Instr.alloc, Instr.box, hz1]
  | box t x =>
    simp only [evA, ob_eq] at he
    obtain ⟨v, hv, he⟩ := he
    exact alay_val (box_run h hz (hO x (by simp [Op.operands]) _ hv) he)
  | buildSlice t n ps =>
    simp only [evA, ob_eq] at he
    obtain ⟨vs, hvs, he⟩ := he
    refine alay_val (buildSl_run h hz ?_ he)
    rw [Array.toList_map]
    exact evParts_rel (fun p hp => hO p.2 (by simp only [Op.operands]; exact List.mem_map_of_mem hp)) hvs
  | makeSlice t l c =>
    simp only [evA, ob_eq] at he
    obtain ⟨u, hu, v, hv, he⟩ := he
    exact alay_val (makeSl_run h hz (hO l (by simp [Op.operands]) _ hu) (hO c (by simp [Op.operands]) _ hv) he)
  | makeMap t r =>
    simp only [evA, chk_eq, Option.some.injEq, Prod.mk.injEq] at he
    obtain ⟨hr, rfl, rfl⟩ := he
    cases r with
    | some x => cases hr
    | none =>
      refine alay_val (s := Instr.makeMap t none) ⟨.map #[] 0, _, by simp [Instr.makeMap]; rfl, ?_, ?_⟩
      · refine ⟨#[], 0, ?_, trivial, ?_⟩
        · rw [new_μ_nx]; exact heap_alloc_new _ _
        · rw [new_μ_nx]; exact h.base
      · refine .map _ _ ⟨by simp [Wd.new, SH.newAt], fun o _ _ => ?_⟩
        rw [new_μ_nx]
  | _ => cases he
end
end Go.Ev
