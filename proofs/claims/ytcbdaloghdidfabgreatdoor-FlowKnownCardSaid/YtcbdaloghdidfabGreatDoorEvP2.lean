/- PART OF A PROOF: an evaluator over the model (its own text), and that it is sound: what it reckons, the machine does. No condition. -/
import Derived.Test.YtcbdaloghdidfabGreatDoorEvP1
namespace Go.Ev
open Go.RowKit
section
variable {P : Program} {S : Wd} {w : World}

/-! ### Numbers -/
theorem aBin_run {op : BinOp} {k : IntKind} {x y : Int} {t : TypeId} {r : AV} (h : aBin op k x y = some r) : ∃ v, (Go.binOp op t (.int k x) (.int k y)).run P w = .ok v w ∧ VRel S r v := by
  cases op <;> simp only [aBin, Option.some.injEq] at h <;> first
    | (subst h; exact ⟨_, rfl, .int _ _⟩)
    | (subst h; exact ⟨_, by simp [Go.binOp, Op.intArith, Op.intBits, Op.intCmp], .int _ _⟩)
    | (subst h; exact ⟨_, by simp [Go.binOp, Op.intCmp], .bool _⟩)
    | (split at h
       · cases h
       · rename_i hy; cases h; exact ⟨_, by simp [Go.binOp, Op.intDiv, hy], .int _ _⟩)
    | cases h
theorem aShift_run {op : BinOp} {k k' : IntKind} {x y : Int} {t : TypeId} {r : AV} (ho : op = .shl ∨ op = .shr) (h : aShift op k x y = some r) :
    ∃ v, (Go.binOp op t (.int k x) (.int k' y)).run P w = .ok v w ∧ VRel S r v := by
  simp only [aShift] at h
  split at h
  · cases h
  · rename_i hy
    rcases ho with rfl | rfl <;> cases h <;> exact ⟨_, by simp [Go.binOp, Op.shift, hy], .int _ _⟩
theorem aUn_run {op : UnOp} {x r : AV} {v : Value} (hx : VRel S x v) (h : aUn op x = some r) : ∃ v', (Op.unary op v).run P w = .ok v' w ∧ VRel S r v' := by
  unfold aUn at h
  split at h
  · cases hx; cases h; exact ⟨_, by simp [Op.unary, Op.intArith], .int _ _⟩
  · cases hx; cases h; exact ⟨_, by simp [Op.unary, Op.intBits], .int _ _⟩
  · cases hx; cases h; exact ⟨_, by simp [Op.unary], .bool _⟩
  · cases h

/-! ### Equality -/
def EqOK (P : Program) (S : Wd) (d : Nat) : Prop := ∀ (t : TypeId) (x y : AV) (r : Bool) (v u : Value) (D : Nat) (w : World), aEq P d t x y = some r → VRel S x v → VRel S y u → d ≤ D →
  (Op.equalIn D t v u).run P w = .ok r w
theorem eqFields_run {d D n m : Nat} {xs ys : Tr AV} {cs us : Array Value} (ih : EqOK P S d) (hD : d ≤ D) (hx : Vals S xs n cs.toList) (hy : Vals S ys m us.toList) :
    ∀ {fs : List Field} {r : Bool} {w : World}, eqFields P (aEq P d) n m xs ys fs = some r → (Op.eqFields D cs us fs).run P w = .ok r w := by
  intro fs
  induction fs with
  | nil => intro r w h; cases h; rfl
  | cons f fs ih2 =>
    intro r w h
    simp only [eqFields, cond_eq] at h
    by_cases hn : (f.name != "_") = true
    · rw [if_pos hn] at h
      have hn' : f.name ≠ "_" := by simpa using hn
      simp only [ob_eq] at h
      obtain ⟨p, hp, q, hq, b, hb, h⟩ := h
      obtain ⟨v1, r1, k1⟩ := part_rel (w := w) hx hp
      obtain ⟨v2, r2, k2⟩ := part_rel (w := w) hy hq
      have r3 := ih _ _ _ _ _ _ D w hb k1 k2 hD
      simp only [Op.eqFields, if_pos hn', Sem.run_bind, r1, r2, r3, Result.andThen_ok]
      cases b with
      | true => simp only [Bool.not_true, Bool.false_eq_true, if_false]; exact ih2 h
      | false => cases h; rfl
    · rw [if_neg hn] at h
      have hn' : ¬ f.name ≠ "_" := by simpa using hn
      simp only [Op.eqFields, if_neg hn']
      exact ih2 h
theorem eqItems_run {d D n m s : Nat} {e : TypeId} {xs ys : Tr AV} {cs us : Array Value} (ih : EqOK P S d) (hD : d ≤ D) (hx : Vals S xs n cs.toList) (hy : Vals S ys m us.toList) :
    ∀ {k i : Nat} {r : Bool} {w : World}, eqElems P (aEq P d e) e s n m xs ys k i = some r → (Op.eqItems D e s cs us (List.range' i k)).run P w = .ok r w := by
  intro k
  induction k with
  | zero => intro i r w h; cases h; rfl
  | succ k ih2 =>
    intro i r w h
    simp only [eqElems, ob_eq] at h
    obtain ⟨p, hp, q, hq, b, hb, h⟩ := h
    obtain ⟨v1, r1, k1⟩ := part_rel (w := w) hx hp
    obtain ⟨v2, r2, k2⟩ := part_rel (w := w) hy hq
    have r3 := ih _ _ _ _ _ _ D w hb k1 k2 hD
    simp only [List.range'_succ, Op.eqItems, Sem.run_bind, r1, r2, r3, Result.andThen_ok]
    cases b with
    | true => simp only [Bool.not_true, Bool.false_eq_true, if_false]; exact ih2 h
    | false => cases h; rfl
theorem aEq_run : ∀ d, EqOK P S d := by
  intro d
  induction d with
  | zero => intro t x y r v u D w h; cases h
  | succ d ih =>
    intro t x y r v u D w h hx hy hD
    obtain ⟨D, rfl⟩ : ∃ D', D = D' + 1 := ⟨D - 1, by omega⟩
    simp only [aEq] at h
    split at h
    · rename_i hu
      split at h <;> first | cases h | skip
      cases hx; cases hy
      simp [Op.equalIn, und_run hu]
    · rename_i k hu
      split at h <;> first | cases h | skip
      split at h <;> first | cases h | skip
      rename_i hk
      subst hk
      cases hx; cases hy
      simp [Op.equalIn, und_run hu]
    · rename_i hu
      split at h <;> first | cases h | skip
      cases hx; cases hy
      simp [Op.equalIn, und_run hu]
    · rename_i e hu
      split at h <;> cases h <;> cases hx <;> cases hy <;> simp [Op.equalIn, und_run hu]
    · rename_i e hu
      split at h <;> cases h <;> cases hx <;> cases hy <;> simp [Op.equalIn, und_run hu]
    · rename_i fs hu
      split at h <;> first | cases h | skip
      simp only [chk_eq] at h
      obtain ⟨h1, h⟩ := h
      have h1 : P.stoodInHeld t = false := by simpa using h1
      obtain ⟨cs, rfl, hvx⟩ := agg_vals hx
      obtain ⟨us, rfl, hvy⟩ := agg_vals hy
      have hf : P.underlying t = some (.struct (P.fieldsOf t)) := by simp [Program.fieldsOf, hu]
      rw [run_equalIn_struct w D t cs us hf h1]
      have e : P.fieldsOf t = fs := by simp [Program.fieldsOf, hu]
      rw [e]
      exact eqFields_run ih (by omega) hvx hvy h
    · rename_i len e hu
      split at h <;> first | cases h | skip
      simp only [ob_eq] at h
      obtain ⟨s, hs, h⟩ := h
      obtain ⟨i, hi, rfl⟩ := tsz_eq hs
      obtain ⟨cs, rfl, hvx⟩ := agg_vals hx
      obtain ⟨us, rfl, hvy⟩ := agg_vals hy
      rw [run_equalIn_array w D cs us hu hi]
      have e : P.cellsOf e = i.size := by simp [Program.cellsOf, hi]
      rw [e, List.range_eq_range']
      exact eqItems_run ih (by omega) hvx hvy h
    · cases h
end
end Go.Ev
