/- PART OF A PROOF: an evaluator over the model (its own text), and that it is sound: what it reckons, the machine does. No condition. -/
import Derived.Test.YtcbdaloghdidfabGreatDoorEvP2
namespace Go.Ev
open Go.RowKit
section
variable {P : Program} {S : Wd} {w : World}

/-- Neither a number nor a text nor a float. -/
def Cmp : Value → Prop
  | .bool _ | .pointer _ | .slice _ _ _ | .agg _ => True
  | _ => False
theorem binOp_eql {t : TypeId} {v u : Value} (h : Cmp v) : Go.binOp .eql t v u = (do pure (.bool (← Op.equal t v u))) := by
  cases v <;> first | (exact h.elim) | skip
  all_goals cases u <;> rfl
theorem binOp_neq {t : TypeId} {v u : Value} (h : Cmp v) : Go.binOp .neq t v u = (do pure (.bool !(← Op.equal t v u))) := by
  cases v <;> first | (exact h.elim) | skip
  all_goals cases u <;> rfl
theorem guard_run {op : BinOp} {t : TypeId} {x y : Operand} {v u : Value} (h : v ≠ .nilIface) (ha : (∃ cs, v = .agg cs) → P.eqGuardType P.depth t = false) :
    (eqGuard op t x y v u).run P w = .ok () w := by
  have key : ∀ op', (op' = .eql ∨ op' = .neq) → (eqGuard op' t x y v u).run P w = .ok () w := by
    intro op' ho
    have e : eqGuard op' t x y v u = eqGuard .eql t x y v u := by rcases ho with rfl | rfl <;> rfl
    rw [e]
    cases v with
    | nilIface => exact absurd rfl h
    | agg cs =>
      have := ha ⟨cs, rfl⟩
      cases u with
      | agg us => exact run_eqGuard_agg w .eql t x y cs us this
      | _ => rfl
    | _ => rfl
  cases op <;> first | exact key _ (.inl rfl) | exact key _ (.inr rfl) | rfl
theorem cmpA_run {op : BinOp} {t : TypeId} {x y r : AV} {v u : Value} (hc : Cmp v) (hx : VRel S x v) (hy : VRel S y u) (h : cmpA P op t x y = some r) :
    ∃ v', (Go.binOp op t v u).run P w = .ok v' w ∧ VRel S r v' ∧ ((∃ cs, v = .agg cs) → P.eqGuardType P.depth t = false) := by
  simp only [cmpA, chk_eq] at h
  obtain ⟨h1, h⟩ := h
  have hg : (∃ cs, v = .agg cs) → P.eqGuardType P.depth t = false := by
    rintro ⟨cs, rfl⟩
    cases hx with
    | agg => simpa [isAggA] using h1
  cases op <;> first | cases h | skip
  · simp only [ob_eq, Option.some.injEq] at h
    obtain ⟨b, hb, rfl⟩ := h
    have := aEq_run 50 t x y b v u 10000 w hb hx hy (by omega)
    exact ⟨_, by rw [binOp_eql hc]; simp [Op.equal, Op.maxDepth, this], .bool _, hg⟩
  · simp only [ob_eq, Option.some.injEq] at h
    obtain ⟨b, hb, rfl⟩ := h
    have := aEq_run 50 t x y b v u 10000 w hb hx hy (by omega)
    exact ⟨_, by rw [binOp_neq hc]; simp [Op.equal, Op.maxDepth, this], .bool _, hg⟩
theorem binop_run {op : BinOp} {t : TypeId} {x y r : AV} {ox oy : Operand} {v u : Value} (hx : VRel S x v) (hy : VRel S y u) (h : binop P op t x y = some r) :
    ∃ v', (do eqGuard op t ox oy v u; Go.binOp op t v u : Sem Value).run P w = .ok v' w ∧ VRel S r v' := by
  have fin : ∀ {v' : Value}, v ≠ .nilIface → ((∃ cs, v = .agg cs) → P.eqGuardType P.depth t = false) → (Go.binOp op t v u).run P w = .ok v' w → VRel S r v' →
      ∃ v', (do eqGuard op t ox oy v u; Go.binOp op t v u : Sem Value).run P w = .ok v' w ∧ VRel S r v' := fun h1 h2 h3 h4 =>
    ⟨_, by simp only [Sem.run_bind, guard_run h1 h2, Result.andThen_ok]; exact h3, h4⟩
  unfold binop at h
  split at h
  · cases hx; cases hy
    split at h
    · obtain ⟨v', h1, h2⟩ := aShift_run (S := S) (P := P) (w := w) (.inl rfl) h
      exact fin (by simp) (by rintro ⟨_, h⟩; cases h) h1 h2
    · obtain ⟨v', h1, h2⟩ := aShift_run (S := S) (P := P) (w := w) (.inr rfl) h
      exact fin (by simp) (by rintro ⟨_, h⟩; cases h) h1 h2
    · split at h
      · rename_i hk
        subst hk
        obtain ⟨v', h1, h2⟩ := aBin_run (S := S) (P := P) (w := w) (t := t) h
        exact fin (by simp) (by rintro ⟨_, h⟩; cases h) h1 h2
      · cases h
  · cases hx; cases hy
    split at h
    · cases h
      exact fin (by simp) (by rintro ⟨_, h⟩; cases h) (by simp [Go.binOp, Op.stringOp]) (.bool _)
    · cases h
      exact fin (by simp) (by rintro ⟨_, h⟩; cases h) (by simp [Go.binOp, Op.stringOp]) (.bool _)
    · cases h
  all_goals first
    | cases h
    | (have hx' := hx
       cases hx
       obtain ⟨v', h1, h2, h3⟩ := cmpA_run (w := w) (by exact trivial) hx' hy h
       exact fin (by simp) h3 h1 h2)

/-! ### Conversions, indices -/
theorem convP_run {s d : TypeId} {x r : AV} {v : Value} (hx : VRel S x v) (h : convP P d x = some r) (hsu : ∃ sd, P.underlying s = some sd) :
    ∃ v', (Go.convert s d v).run P w = .ok v' w ∧ VRel S r v' := by
  obtain ⟨sd, hsd⟩ := hsu
  unfold convP at h
  split at h
  · simp only [ob_eq] at h
    obtain ⟨dd, hd, h⟩ := h
    cases hx
    split at h <;> cases h
    exact ⟨_, by simp [Go.convert, und_run hsd, und_run hd, Conv.intToInt], .int _ _⟩
  · simp only [ob_eq] at h
    obtain ⟨dd, hd, h⟩ := h
    cases hx
    split at h <;> cases h
    exact ⟨_, by simp [Go.convert, und_run hsd, und_run hd], .str _⟩
  · cases h

theorem ARel.move {a : AA} {c : Addr} (h : ARel S a c) (n : Nat) : ARel S ⟨a.b, a.off + n, a.tip, a.base⟩ (c.add n) := by
  rw [addr_eq h.spot]
  refine ⟨h.lt, Nat.le_trans h.base (Nat.le_add_right _ _), rfl, fun m t k hg => ?_⟩
  have hp := h.place m t k hg
  have hb := h.base
  cases k with
  | fixed ro => exact ⟨hp.1, by simp only [hp.2]⟩
  | rub st lo =>
    refine ⟨hp.1, fun h1 h2 => ?_⟩
    simp only at h1 h2
    rcases hp.2 h1 h2 with ⟨e1, e2⟩ | ho
    · left; exact ⟨e1, by simp only [e2]; omega⟩
    · right
      refine ⟨ho.tip, ho.unm, ho.lt, fun i hi1 hi2 => ?_⟩
      simp only at hi1 hi2
      have := ho.same i (by omega) hi2
      simp only at this ⊢
      rw [← this]
      congr 2
      omega
theorem vrel_int {x : AV} {k : IntKind} {n : Int} {v : Value} (h : VRel S x v) (e : x = .int k n) : v = .int k n := by subst e; cases h; rfl
theorem natOf_rel {x : AV} {v : Value} {n : Nat} (hx : VRel S x v) (h : natOf x = some n) : ∃ k, v = .int k (n : Int) := by
  unfold natOf at h
  split at h
  · simp only [chk_eq, Option.some.injEq, decide_eq_true_eq] at h
    obtain ⟨h0, rfl⟩ := h
    cases hx
    rename_i k i
    exact ⟨k, by rw [Int.toNat_of_nonneg h0]⟩
  · cases h
theorem idx_run {t : TypeId} {x i r : AV} {v u : Value} (hx : VRel S x v) (hi : VRel S i u) (h : idx P t x i = some r) :
    ∃ v', (Instr.indexAt t v u).run P w = .ok v' w ∧ VRel S r v' := by
  unfold idx at h
  split at h
  · cases hi
    rename_i k i
    simp only [ob_eq] at h
    obtain ⟨d, hd, h⟩ := h
    split at h
    · rename_i len e
      split at h
      · rename_i a
        simp only [chk_eq, ob_eq, Option.some.injEq, decide_eq_true_eq] at h
        obtain ⟨hb, s, hs, rfl⟩ := h
        cases hx
        rename_i c hA
        exact ⟨_, by simp [Instr.indexAt, und_run hd, asIntOf, Instr.sureAddr, hb, size_run hs], .ptr _ _ (hA.move _)⟩
      · cases h
    · rename_i e
      split at h
      · rename_i a len cap opn
        simp only [chk_eq, ob_eq, Option.some.injEq, decide_eq_true_eq] at h
        obtain ⟨hb, s, hs, rfl⟩ := h
        cases hx
        rename_i c cap' hA hC
        exact ⟨_, by simp [Instr.indexAt, und_run hd, asIntOf, hb, size_run hs], .ptr _ _ (hA.move _)⟩
      · cases h
    · cases h
  · cases h
theorem idxV_run {t : TypeId} {x i r : AV} {v u : Value} (hx : VRel S x v) (hi : VRel S i u) (h : idxV P t x i = some r) :
    ∃ v', (Instr.index t v u).run P w = .ok v' w ∧ VRel S r v' := by
  unfold idxV at h
  split at h
  · cases hi
    rename_i k i
    split at h
    · rename_i n tr
      obtain ⟨cs, rfl, hv⟩ := agg_vals hx
      simp only [ob_eq] at h
      obtain ⟨d, hd, h⟩ := h
      split at h
      · rename_i len e
        simp only [chk_eq, ob_eq, decide_eq_true_eq] at h
        obtain ⟨hb, s, hs, h⟩ := h
        obtain ⟨v', r1, r2⟩ := part_rel (w := w) hv h
        exact ⟨v', by simp [Instr.index, und_run hd, asIntOf, hb, size_run hs, r1], r2⟩
      · cases h
    · rename_i s
      cases hx
      simp only [ob_eq] at h
      obtain ⟨d, hd, h⟩ := h
      split at h
      · simp only [chk_eq, ob_eq, Option.some.injEq, decide_eq_true_eq] at h
        obtain ⟨hb, b, hs, rfl⟩ := h
        exact ⟨_, by simp [Instr.index, und_run hd, asIntOf, hb, hs], .int _ _⟩
      · cases h
    · cases h
  · cases h
theorem bound_run {d y : Nat} {x : Option AV} {v : Option Value} {n : Nat} {code : BoundsCode}
    (hr : match x with | none => v = none | some z => ∃ u, v = some u ∧ VRel S z u) (h : bound d x = some n) (hn : n ≤ y) :
    (match v with | some u => Instr.sliceBound u y code | none => pure d : Sem Nat).run P w = .ok n w := by
  cases x with
  | none =>
    simp only at hr
    subst hr
    simp only [bound, Option.some.injEq] at h
    subst h
    rfl
  | some z =>
    obtain ⟨u, rfl, hz⟩ := hr
    obtain ⟨k, rfl⟩ := natOf_rel hz h
    simp [Instr.sliceBound, asIntOf, hn]
theorem mvA_rel {a : AA} {c : Addr} (h : ARel S a c) (m l n : Nat) : ARel S (mvA a (Nat.beq m l) n) (if m = l then c else c.add n) := by
  unfold mvA
  rw [cond_eq]
  by_cases e : m = l
  · rw [if_pos (by simpa using e), if_pos e]; exact h
  · rw [if_neg (by simpa using e), if_neg e]; exact h.move n
def OptRel (S : Wd) (x : Option AV) (v : Option Value) : Prop := match x with | none => v = none | some z => ∃ u, v = some u ∧ VRel S z u
theorem OptRel.isSome {x : Option AV} {v : Option Value} (h : OptRel S x v) : x.isSome = v.isSome := by
  cases x with
  | none => simp only [OptRel] at h; subst h; rfl
  | some z => obtain ⟨u, rfl, _⟩ := h; rfl

theorem bounds_run {isS : Bool} {len cap l h : Nat} {lo hi : Option AV} {vl vh : Option Value} (rl : OptRel S lo vl) (rh : OptRel S hi vh)
    (hl : bound 0 lo = some l) (hh : bound len hi = some h) (h1 : l ≤ h) (h2 : h ≤ cap) :
    (Instr.sliceBounds isS len cap vl vh none).run P w = .ok (l, h, cap) w := by
  have e1 := bound_run (P := P) (w := w) (code := if isS then .sliceAcap else .sliceAlen) rh hh h2
  have e2 := bound_run (P := P) (w := w) (code := .sliceB) rl hl h1
  unfold Instr.sliceBounds
  cases vh with
  | none =>
    simp only [Sem.run_pure, Result.ok.injEq, and_true] at e1
    subst e1
    cases vl with
    | none =>
      simp only [Sem.run_pure, Result.ok.injEq, and_true] at e2
      subst e2
      simp
    | some u => simp at e2; simp [e2]
  | some v =>
    simp only at e1
    cases vl with
    | none =>
      simp only [Sem.run_pure, Result.ok.injEq, and_true] at e2
      subst e2
      simp [e1]
    | some u => simp at e2; simp [e1, e2]
theorem bounds3_run {len cap l h m : Nat} {lo hi : Option AV} {vl vh : Option Value} {x : AV} {u : Value} (rl : OptRel S lo vl) (rh : OptRel S hi vh) (hs : hi.isSome = true)
    (hx : VRel S x u) (hm : natOf x = some m) (hl : bound 0 lo = some l) (hh : bound len hi = some h) (h1 : l ≤ h) (h2 : h ≤ m) (h3 : m ≤ cap) :
    (Instr.sliceBounds true len cap vl vh (some u)).run P w = .ok (l, h, m) w := by
  obtain ⟨k, rfl⟩ := natOf_rel hx hm
  have e1 := bound_run (P := P) (w := w) (code := .slice3B) rh hh h2
  have e2 := bound_run (P := P) (w := w) (code := .slice3C) rl hl h1
  have e0 : (Instr.sliceBound (.int k (m : Int)) cap .slice3Acap).run P w = .ok m w := by simp [Instr.sliceBound, asIntOf, h3]
  unfold Instr.sliceBounds
  rw [rh.isSome] at hs
  cases vh with
  | none => cases hs
  | some v =>
    simp only at e1
    cases vl with
    | none =>
      simp only [Sem.run_pure, Result.ok.injEq, and_true] at e2
      subst e2
      simp [e0, e1]
    | some u => simp at e2; simp [e0, e1, e2]
theorem slc_run {t : TypeId} {x r : AV} {lo hi mx : Option AV} {v : Value} {vl vh vm : Option Value} (hx : VRel S x v) (rl : OptRel S lo vl) (rh : OptRel S hi vh) (rm : OptRel S mx vm)
    (h : slc P t x lo hi mx = some r) : ∃ v', (Instr.sliceAt t v vl vh vm).run P w = .ok v' w ∧ VRel S r v' := by
  simp only [slc, ob_eq] at h
  obtain ⟨d, hd, h⟩ := h
  split at h
  · rename_i e
    simp only [ob_eq] at h
    obtain ⟨s, hs, h⟩ := h
    have hat : ∀ (a : Option Addr) (len cap : Nat), (Instr.sliceAt t (.slice a len cap) vl vh vm).run P w = (Instr.slice t (.slice a len cap) vl vh vm).run P w := by
      intro a len cap; simp [Instr.sliceAt, und_run hd]
    split at h
    · rename_i a len cap opn
      cases hx
      rename_i c cap' hA hC
      simp only [ob_eq] at h
      obtain ⟨l, hl, hh, hhh, h⟩ := h
      split at h
      · simp only [OptRel] at rm
        subst rm
        simp only [chk_eq, Option.some.injEq, Bool.and_eq_true] at h
        obtain ⟨⟨⟨h1, h2⟩, h3⟩, rfl⟩ := h
        have h1 : hh ≤ cap := by simpa using h1
        have h2 : l ≤ hh := by simpa using h2
        have hge := hC.ge
        have hb := bounds_run (P := P) (w := w) (isS := true) (cap := cap') rl rh hl hhh h2 (by omega)
        refine ⟨.slice (if cap' = l then some c else (some c).map (·.add (l * s))) (hh - l) (cap' - l), ?_, ?_⟩
        · rw [hat]; simp [Instr.slice, und_run hd, hb, size_run hs]
        · have hle := hC.le
          have e0 : (if cap' = l then some c else (some c).map (·.add (l * s))) = some (if cap' = l then c else c.add (l * s)) := by split <;> rfl
          rw [e0]
          simp only [Bool.or_eq_true, Bool.and_eq_true] at h3
          rcases h3 with h3 | ⟨h3, h4⟩
          · have h3 : opn = 0 := by simpa using h3
            have he := hC.exact h3
            subst he
            refine .slice _ _ _ _ _ _ (mvA_rel hA _ _ _) ⟨by omega, fun _ => rfl, by omega, fun h => absurd h3 h⟩
          · have h3 : opn = s := by simpa using h3
            have h4 : ¬ l = cap := Nat.ne_of_beq_eq_false (by simpa using h4)
            have hne : ¬ cap' = l := by omega
            have hne2 : ¬ cap = l := by omega
            rw [if_neg hne]
            have hm : mvA a (Nat.beq cap l) (l * s) = ⟨a.b, a.off + l * s, a.tip, a.base⟩ := by
              unfold mvA; rw [cond_eq, if_neg (by simpa using hne2)]
            rw [hm]
            refine .slice _ _ _ _ _ _ (hA.move _) ⟨by omega, fun h0 => by have := hC.exact h0; omega, by omega, fun h0 n t' st lo' hg g1 g2 g3 cs ty fr he => ?_⟩
            have := hC.fits h0 n t' st lo' hg g1 g2 g3 cs ty fr he
            rw [addr_eq hA.spot]
            simp only
            subst h3
            have e : (cap' - l) * opn = cap' * opn - l * opn := Nat.sub_mul _ _ _
            have e2 : l * opn ≤ cap' * opn := Nat.mul_le_mul_right _ (by omega)
            omega
      · rename_i m
        obtain ⟨u, rfl, hm⟩ := rm
        simp only [chk_eq, ob_eq, Option.some.injEq, Bool.and_eq_true] at h
        obtain ⟨hsome, n, hn, ⟨⟨h1, h2⟩, h3⟩, rfl⟩ := h
        have h1 : n ≤ cap := by simpa using h1
        have h2 : hh ≤ n := by simpa using h2
        have h3 : l ≤ hh := by simpa using h3
        have hge := hC.ge
        have hb := bounds3_run (P := P) (w := w) (cap := cap') rl rh hsome hm hn hl hhh h3 h2 (by omega)
        refine ⟨.slice (if n = l then some c else (some c).map (·.add (l * s))) (hh - l) (n - l), ?_, ?_⟩
        · rw [hat]; simp [Instr.slice, und_run hd, hb, size_run hs]
        · have e0 : (if n = l then some c else (some c).map (·.add (l * s))) = some (if n = l then c else c.add (l * s)) := by split <;> rfl
          rw [e0]
          exact .slice _ _ _ _ _ _ (mvA_rel hA _ _ _) ⟨by omega, fun _ => rfl, by omega, fun h => absurd rfl h⟩
    · cases hx
      simp only [ob_eq] at h
      obtain ⟨l, hl, hh, hhh, h⟩ := h
      split at h
      · simp only [OptRel] at rm
        subst rm
        simp only [chk_eq, Option.some.injEq, Bool.and_eq_true] at h
        obtain ⟨⟨h1, h2⟩, rfl⟩ := h
        have h1 : l = 0 := by simpa using h1
        have h2 : hh = 0 := by simpa using h2
        subst h1; subst h2
        have hb := bounds_run (P := P) (w := w) (isS := true) (cap := 0) rl rh hl hhh (Nat.le_refl _) (Nat.le_refl _)
        exact ⟨.slice none 0 0, by rw [hat]; simp [Instr.slice, und_run hd, hb, size_run hs], .nilslice⟩
      · cases h
    · cases h
  · rename_i n e
    simp only [ob_eq] at h
    obtain ⟨s, hs, h⟩ := h
    split at h
    · rename_i a
      cases hx
      rename_i c hA
      simp only [ob_eq] at h
      obtain ⟨l, hl, hh, hhh, h⟩ := h
      split at h
      · simp only [OptRel] at rm
        subst rm
        simp only [chk_eq, Option.some.injEq, Bool.and_eq_true] at h
        obtain ⟨⟨h1, h2⟩, rfl⟩ := h
        have h1 : hh ≤ n := by simpa using h1
        have h2 : l ≤ hh := by simpa using h2
        have hb := bounds_run (P := P) (w := w) (isS := false) (cap := n) rl rh hl hhh h2 h1
        exact ⟨_, by simp [Instr.sliceAt, und_run hd, Instr.sureAddr, hb, size_run hs],
          .slice _ _ _ _ _ _ (mvA_rel hA _ _ _) ⟨by omega, fun _ => rfl, by omega, fun h => absurd rfl h⟩⟩
      · cases h
    · cases h
  · cases h

/-! ### len, min, max -/
theorem lenP_run {ats : Array TypeId} {t ty : TypeId} {x : AV} {v : Value} {n : Nat} (h0 : ats[0]? = some t) (hx : VRel S x v) (h : lenP P t x = some n) :
    (Builtin.len_ ats ty #[v]).run P w = .ok (.int .i64 n) w := by
  simp only [lenP, ob_eq] at h
  obtain ⟨d, hd, h⟩ := h
  split at h
  · cases h; simp [Builtin.len_, h0, und_run hd, goInt]
  · rename_i e
    simp only [ob_eq] at h
    obtain ⟨d2, hd2, h⟩ := h
    split at h <;> cases h
    simp [Builtin.len_, h0, und_run hd, und_run hd2, goInt]
  · split at h <;> cases h <;> cases hx <;> simp [Builtin.len_, h0, und_run hd, goInt]
  · split at h <;> cases h <;> cases hx <;> simp [Builtin.len_, h0, und_run hd, goInt]
  · cases h
theorem mmx_run {mx : Bool} : ∀ {xs : List AV} {vs : List Value} {k : IntKind} {n : Int} {r : AV}, VRels S xs vs → mmx mx (.int k n) xs = some r →
    ∃ v, (vs.foldlM (cond mx Builtin.max2 Builtin.min2) (Value.int k n)).run P w = .ok v w ∧ VRel S r v := by
  intro xs
  induction xs with
  | nil => intro vs k n r hr h; cases hr; cases h; exact ⟨_, rfl, .int _ _⟩
  | cons y ys ih =>
    intro vs k n r hr h
    cases hr with
    | cons _ v _ vs hv hs =>
      cases hv with
      | int k2 m =>
        obtain ⟨u, h1, h2⟩ := ih hs h
        refine ⟨u, ?_, h2⟩
        have e : (cond mx Builtin.max2 Builtin.min2 (Value.int k n) (Value.int k2 m)).run P w = .ok (.int k (mm2 mx n m)) w := by cases mx <;> rfl
        simp only [List.foldlM_cons, Sem.run_bind, e, Result.andThen_ok]
        exact h1
      | _ => cases h
end
end Go.Ev
