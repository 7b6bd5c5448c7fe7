/- PART OF A PROOF: an evaluator over the model (its own text), and that it is sound: what it reckons, the machine does. No condition. -/
import Derived.Test.YtcbdaloghdidfabGreatDoorEvP4
namespace Go.Ev
open Go.RowKit
section
variable {P : Program} {B : Nat} {S : Wd} {tm : Tr AV} {a : Act} {E : Nat → Option AO} {R : Nat → Prop}

/-! ### Bytes to a string -/
theorem str_loop {w : World} (f : Value → ByteArray → Sem (ForInStep ByteArray)) (hf : ∀ (n : Int) r, f (.int .u8 n) r = pure (ForInStep.yield (r.push (UInt8.ofNat n.toNat)))) :
    ∀ {k off : Nat} {acc s : ByteArray} {t : Tr AV} {cs : List Value}, Vals S t (off + k) cs → strOf t k off acc = some s →
    (forIn (cs.drop off) acc f).run P w = .ok s w := by
  intro k
  induction k with
  | zero =>
    intro off acc s t cs hv h
    cases h
    have hl := hv.1
    rw [List.drop_of_length_le (by omega)]
    simp
  | succ k ih =>
    intro off acc s t cs hv h
    simp only [strOf, ob_eq] at h
    obtain ⟨x, hx, h⟩ := h
    obtain ⟨y, v, g1, g2, g3, g4⟩ := hv.2 off (by omega)
    rw [hx] at g1
    cases g1
    have hd : cs.drop off = v :: cs.drop (off + 1) := by
      have hlt : off < cs.length := by have := hv.1; omega
      rw [List.drop_eq_getElem_cons hlt]
      rw [List.getElem?_eq_getElem hlt] at g3
      cases g3
      rfl
    split at h
    · cases g4
      have hv' : Vals S t (off + 1 + k) cs := by
        have e : off + 1 + k = off + (k + 1) := by omega
        rw [e]; exact hv
      have := ih hv' h
      rw [hd]
      simp only [List.forIn_cons, hf, Sem.run_bind, Sem.run_pure, Result.andThen_ok]
      exact this
    · cases h
theorem convR_run {H : AHeap} {s d : TypeId} {x r : AV} {v : Value} (h : Rel P.globals.size B S) (hH : At E R H S) (hx : VRel S x v) (he : convR P H s d x = some r) :
    ∃ v', (Go.convert s d v).run P S.w = .ok v' S.w ∧ VRel S r v' := by
  simp only [convR, ob_eq] at he
  obtain ⟨sd, hsd, he⟩ := he
  split at he
  · rename_i e
    simp only [ob_eq] at he
    obtain ⟨dd, hdd, he⟩ := he
    split at he
    · simp only [chk_eq] at he
      obtain ⟨hu, he⟩ := he
      have hu8 : P.underlying e = some (.int .u8) := by
        unfold isU8 at hu
        split at hu
        · assumption
        · cases hu
      have hconv : ∀ v : Value, (∃ o l c, v = .slice o l c) → (Go.convert s d v).run P S.w = (Conv.bytesToString v).run P S.w := by
        rintro v ⟨o, l, c, rfl⟩
        simp [Go.convert, und_run hsd, und_run hdd, und_run hu8]
      split at he
      · cases he
        cases hx
        exact ⟨_, by rw [hconv _ ⟨_, _, _, rfl⟩]; simp [Conv.bytesToString], .str _⟩
      · simp only [ob_eq, Option.some.injEq] at he
        obtain ⟨t, ht, str, hs, rfl⟩ := he
        cases hx
        rename_i aa len cap opn c cap' hA hC
        obtain ⟨cs, hseg⟩ := rdCells_rel h hA hH ht
        have hl := run_loadCells_list (P := P) S.w c cs hseg.2.1
        have hv : Vals S t (0 + len) cs := by simpa using hseg.vals
        refine ⟨_, ?_, .str str⟩
        rw [hconv _ ⟨_, _, _, rfl⟩]
        have hlen : cs.length = len := hseg.1
        simp only [Conv.bytesToString, Sem.run_bind, ← hlen, hl, Result.andThen_ok]
        rw [← Array.forIn_toList]
        rw [show cs.toArray.toList = cs.drop 0 by simp, str_loop (P := P) (w := S.w) _ ?hf hv hs]
        case hf => exact fun _ _ => rfl
        rfl
      · cases he
    · cases he
  · cases he

/-! ### Maps -/
theorem same_run {kd : TypeDesc} {k x : AV} {v u : Value} {b : Bool} (hf : keyFits kd k = true) (hk : VRel S k v) (hx : VRel S x u) (h : keyEq k x = some b) : Instr.sameNow kd v u = some b := by
  unfold keyEq at h
  split at h
  · split at h
    · rename_i e
      subst e
      cases h
      cases hk; cases hx
      cases kd <;> first | (cases hf; done) | simp [Instr.sameNow]
    · cases h
  · cases h
    cases hk; cases hx
    cases kd <;> first | (cases hf; done) | simp [Instr.sameNow]
  · cases h
    cases hk; cases hx
    cases kd <;> first | (cases hf; done) | simp [Instr.sameNow]
  · cases h
theorem find_run {kd : TypeDesc} {k : AV} {v : Value} (hf : keyFits kd k = true) (hk : VRel S k v) : ∀ {es : List (AV × AV)} {es' : List MapEntry} {i : Nat} {r : Option AV}, ERel S es es' → look k es = some r →
    ∃ r', Instr.findNow kd v es' i = some r' ∧ (match r with | none => r' = none | some x => ∃ j u, r' = some (j, u) ∧ VRel S x u ∧ notTup x = true) := by
  intro es
  induction es with
  | nil =>
    intro es' i r he h
    cases es' with
    | nil => cases h; exact ⟨none, rfl, rfl⟩
    | cons _ _ => exact he.elim
  | cons p es ih =>
    intro es' i r he h
    cases es' with
    | nil => obtain ⟨a, b⟩ := p; exact he.elim
    | cons e es' =>
      obtain ⟨x, y⟩ := p
      obtain ⟨h1, h2, h3, h4⟩ := he
      simp only [look, ob_eq] at h
      obtain ⟨b, hb, h⟩ := h
      have hs := same_run hf hk h1 hb
      cases b with
      | true => cases h; exact ⟨_, by simp [Instr.findNow, hs], i, e.val, rfl, h2, h3⟩
      | false =>
        obtain ⟨r', f1, f2⟩ := ih h4 h (i := i + 1)
        exact ⟨r', by simp only [Instr.findNow, hs]; exact f1, f2⟩
theorem checkKey_run {b : Bool} {n : Nat} {kt : TypeId} {kd : TypeDesc} {k : AV} {v : Value} {w : World} (hu : P.underlying kt = some kd) (hf : keyFits kd k = true) (hk : VRel S k v) :
    (Instr.checkKey b (n + 1) kt v).run P w = .ok () w := by
  cases hk <;> first | (cases hf; done) | skip
  all_goals (cases kd <;> first | (cases hf; done) | simp [Instr.checkKey, und_run hu])
theorem mapES_rel {H : AHeap} {x : AV} {v : Value} {es : List (AV × AV)} (h : Rel P.globals.size B S) (hH : At E R H S) (hx : VRel S x v) (he : mapES H x = some es) :
    (v = .map none ∧ es = []) ∨ ∃ r es' ck, v = .map (some r) ∧ S.w.heap[r]? = some (.map es' ck) ∧ ERel S es es'.toList := by
  unfold mapES at he
  split at he
  · cases he; cases hx; exact .inl ⟨rfl, rfl⟩
  · rename_i r
    simp only [ob_eq] at he
    obtain ⟨o, ho, he⟩ := he
    split at he
    · cases he
      cases hx
      rename_i r' hm
      have hg : S.H.g r = some (.map es) := hH.get ho
      obtain ⟨es', ck, e1, e2, e3⟩ := h.obj _ _ hg
      rw [← hm.at_ _ hg rfl] at e1
      exact .inr ⟨r', es', ck, rfl, e1, e2⟩
    · cases he
  · cases he
theorem withOk_rel {x : AV} {v : Value} {ok b : Bool} (h : VRel S x v) : VRel S (withOk ok x b) (if ok then .tuple #[v, .bool b] else v) := by
  unfold withOk
  cases ok with
  | false => exact h
  | true => exact .tup _ [v, .bool b] (.cons _ _ _ _ h (.cons _ _ _ _ (.bool b) .nil))
theorem lookup_run {H : AHeap} {t : TypeId} {m k r : AV} {ok : Bool} {vm vk : Value} (h : Rel P.globals.size B S) (hH : At E R H S) (hm : VRel S m vm) (hk : VRel S k vk)
    (he : lookupA P H t m k ok = some r) : ∃ v', (Instr.lookup t vm vk ok).run P S.w = .ok v' S.w ∧ VRel S r v' := by
  simp only [lookupA, ob_eq] at he
  obtain ⟨d, hd, he⟩ := he
  split at he
  · rename_i kt e
    simp only [ob_eq, chk_eq] at he
    obtain ⟨kd, hkd, hf, es, hes, o, ho, he⟩ := he
    have hc := fun b => checkKey_run (b := b) (n := 9999) (w := S.w) hkd hf hk
    rcases mapES_rel h hH hm hes with ⟨rfl, rfl⟩ | ⟨rr, es', ck, rfl, hh, hr⟩
    · cases ho
      simp only [ob_eq, Option.some.injEq] at he
      obtain ⟨z, hz, rfl⟩ := he
      obtain ⟨zv, hz1, hz2, _⟩ := zero_run (P := P) (w := S.w) (S := S) hz
      exact ⟨_, by simp [Instr.lookup, und_run hd, und_run hkd, hc, Instr.findKey, Instr.findNow, hz1], withOk_rel hz2⟩
    · obtain ⟨r', f1, f2⟩ := find_run hf hk (i := 0) hr ho
      have hg : (getObj rr).run P S.w = .ok (.map es' ck) S.w := by simp [getObj, Sem.run, hh]
      split at he
      · cases he
        obtain ⟨j, u, rfl, hu, _⟩ := f2
        exact ⟨_, by simp [Instr.lookup, und_run hd, und_run hkd, hg, hc, Instr.findKey, f1], withOk_rel hu⟩
      · simp only [ob_eq, Option.some.injEq] at he
        obtain ⟨z, hz, rfl⟩ := he
        obtain ⟨zv, hz1, hz2, _⟩ := zero_run (P := P) (w := S.w) (S := S) hz
        simp only at f2
        subst f2
        exact ⟨_, by simp [Instr.lookup, und_run hd, und_run hkd, hg, hc, Instr.findKey, f1, hz1], withOk_rel hz2⟩
  · cases he
theorem erel_length : ∀ {es : List (AV × AV)} {es' : List MapEntry}, ERel S es es' → es.length = es'.length
  | [], [], _ => rfl
  | (_, _) :: _, _ :: _, ⟨_, _, _, d⟩ => by simp [erel_length d]
  | [], _ :: _, h => h.elim
  | _ :: _, [], h => h.elim
theorem lenR_run {H : AHeap} {ats : Array TypeId} {t ty : TypeId} {x : AV} {v : Value} {n : Nat} (h : Rel P.globals.size B S) (hH : At E R H S) (h0 : ats[0]? = some t) (hx : VRel S x v) (he : lenR P H t x = some n) :
    (Builtin.len_ ats ty #[v]).run P S.w = .ok (.int .i64 n) S.w := by
  simp only [lenR, ob_eq] at he
  obtain ⟨d, hd, he⟩ := he
  split at he
  · simp only [ob_eq, Option.some.injEq] at he
    obtain ⟨es, hes, rfl⟩ := he
    rcases mapES_rel h hH hx hes with ⟨rfl, rfl⟩ | ⟨rr, es', ck, rfl, hh, hr⟩
    · simp [Builtin.len_, h0, und_run hd, goInt]
    · have hg : (getObj rr).run P S.w = .ok (.map es' ck) S.w := by simp [getObj, Sem.run, hh]
      have := erel_length hr
      simp [Builtin.len_, h0, und_run hd, goInt, hg, this]
  · cases he

theorem evR_run {H : AHeap} {o : Oper} {r : AV} (h : Rel P.globals.size B S) (hH : At E R H S) (hO : ∀ x ∈ o.op.operands.toList, ORel P S tm a x) (he : evR P tm H o.op = some r) :
    ∃ v', (execOp a.eval o).run P S.w = .ok (.value v') S.w ∧ VRel S r v' := by
  obtain ⟨dst, op, type, pos, after, guard⟩ := o
  simp only at hO he
  cases op with
  | load t x =>
    simp only [evR, ob_eq] at he
    obtain ⟨v, hv, he⟩ := he
    have rv := hO x (by simp [Op.operands]) _ hv
    generalize hu : a.eval x = u at rv
    split at he
    · cases rv
      rename_i c hA
      obtain ⟨v', r1, r2⟩ := load_rel (P := P) h hA hH he
      exact ⟨v', by simp [execOp, hu, Instr.loadAt, Instr.sureAddr, r1], r2⟩
    · cases he
  | convert s d x =>
    simp only [evR, ob_eq] at he
    obtain ⟨v, hv, he⟩ := he
    exact pair_val (convR_run h hH (hO x (by simp [Op.operands]) _ hv) he)
  | lookup t m k ok =>
    simp only [evR, ob_eq] at he
    obtain ⟨v, hv, u, hu, he⟩ := he
    exact pair_val (lookup_run h hH (hO m (by simp [Op.operands]) _ hv) (hO k (by simp [Op.operands]) _ hu) he)
  | call c =>
    simp only [evR] at he
    split at he
    · rename_i hcal
      simp only [ob_eq] at he
      obtain ⟨vs, hvs, he⟩ := he
      have r1 := evOs_rel (a := a) (fun x hx => hO x (by simp only [Op.operands, Call.operands, Array.toList_append, List.mem_append]; exact .inr hx)) hvs
      obtain ⟨callee, args, ats⟩ := c
      simp only at hcal he hvs r1
      subst hcal
      unfold evLenR at he
      split at he
      · rename_i v
        simp only [ob_eq, Option.some.injEq] at he
        obtain ⟨t, ht, n, hn, rfl⟩ := he
        have eargs : args.map a.eval = (args.toList.map a.eval).toArray := Array.ext' (by simp)
        have hone : ∃ v', args.map a.eval = #[v'] ∧ VRel S v v' := by
          rw [eargs]
          generalize args.toList.map a.eval = us at r1
          cases r1 with
          | cons _ v' _ _ hv hs => cases hs; exact ⟨v', rfl, hv⟩
        obtain ⟨v', e, hv'⟩ := hone
        have hl := lenR_run (ty := type) h hH ht hv' hn
        exact ⟨_, by simp [execOp, resolve, invoke, builtin, e, hl], .int _ _⟩
      · cases he
    · cases he
  | _ => cases he
end
end Go.Ev
