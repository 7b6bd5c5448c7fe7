/- PART OF A PROOF: an evaluator over the model (its own text), and that it is sound: what it reckons, the machine does. No condition. -/
import Derived.Test.YtcbdaloghdidfabGreatDoorEvDef
namespace Go.Ev
theorem ob_eq {α β : Type} {x : Option α} {f : α → Option β} {y : β} : ob x f = some y ↔ ∃ a, x = some a ∧ f a = some y := by
  cases x <;> simp [ob]
theorem chk_eq {α : Type} {b : Bool} {x : Option α} {y : α} : chk b x = some y ↔ b = true ∧ x = some y := by
  cases b <;> simp [chk]
theorem cond_eq {α : Type} {b : Bool} {x y : α} : cond b x y = if b = true then x else y := by cases b <;> rfl

namespace Tr
variable {α : Type}
theorem get_nil (n : Nat) : (nil : Tr α).get n = none := rfl
theorem get_c0 (l r : Tr α) (v : Option α) : (node l v r).get 0 = v := rfl
theorem get_cS (l r : Tr α) (v : Option α) (m : Nat) : (node l v r).get (m + 1) = cond (Nat.beq (m % 2) 0) (l.get (m / 2)) (r.get (m / 2)) := by
  show Bool.rec (motive := fun _ => Option α) (r.get (m / 2)) (l.get (m / 2)) (Nat.beq (m % 2) 0) = _
  cases Nat.beq (m % 2) 0 <;> rfl
theorem setF_n0 (f : Nat) (x : α) : setF (f + 1) nil 0 x = node nil (some x) nil := rfl
theorem setF_c0 (f : Nat) (l r : Tr α) (v : Option α) (x : α) : setF (f + 1) (node l v r) 0 x = node l (some x) r := rfl
theorem setF_nS (f m : Nat) (x : α) : setF (f + 1) nil (m + 1) x = cond (Nat.beq (m % 2) 0) (node (setF f nil (m / 2) x) none nil) (node nil none (setF f nil (m / 2) x)) := by
  show Bool.rec (motive := fun _ => Tr α) (node nil none (setF f nil (m / 2) x)) (node (setF f nil (m / 2) x) none nil) (Nat.beq (m % 2) 0) = _
  cases Nat.beq (m % 2) 0 <;> rfl
theorem setF_cS (f m : Nat) (l r : Tr α) (v : Option α) (x : α) : setF (f + 1) (node l v r) (m + 1) x = cond (Nat.beq (m % 2) 0) (node (setF f l (m / 2) x) v r) (node l v (setF f r (m / 2) x)) := by
  show Bool.rec (motive := fun _ => Tr α) (node l v (setF f r (m / 2) x)) (node (setF f l (m / 2) x) v r) (Nat.beq (m % 2) 0) = _
  cases Nat.beq (m % 2) 0 <;> rfl
theorem get_setF (f : Nat) : ∀ (t : Tr α) (n : Nat) (x : α) (k : Nat), n < f → (setF f t n x).get k = if k = n then some x else t.get k := by
  induction f with
  | zero => intro t n x k h; omega
  | succ f ih =>
    intro t n x k h
    cases n with
    | zero =>
      cases t with
      | nil => cases k with
        | zero => simp [setF_n0, get_c0]
        | succ m => simp only [setF_n0, get_nil, get_cS, cond_eq]; split <;> simp
      | node l v r => cases k with
        | zero => simp [setF_c0, get_c0]
        | succ m => simp only [setF_c0, get_cS, cond_eq]; split <;> simp
    | succ m =>
      have hlt : m / 2 < f := by omega
      cases t with
      | nil =>
        simp only [setF_nS, cond_eq]
        cases k with
        | zero => split <;> simp [get_nil, get_c0]
        | succ k =>
          by_cases hm : (Nat.beq (m % 2) 0) = true
          · rw [if_pos hm]
            simp only [get_nil, get_cS, cond_eq]
            have hm' : m % 2 = 0 := Nat.eq_of_beq_eq_true hm
            by_cases hk : (Nat.beq (k % 2) 0) = true
            · have hk' : k % 2 = 0 := Nat.eq_of_beq_eq_true hk
              rw [if_pos hk, ih _ _ _ _ hlt]
              by_cases e : k / 2 = m / 2
              · rw [if_pos e, if_pos (by omega)]
              · rw [if_neg e, if_neg (by omega)]; rfl
            · rw [if_neg hk, if_neg ?_]
              have hk' : ¬ k % 2 = 0 := fun h => hk (by rw [h]; rfl)
              omega
          · rw [if_neg hm]
            simp only [get_nil, get_cS, cond_eq]
            have hm' : ¬ m % 2 = 0 := fun h => hm (by rw [h]; rfl)
            by_cases hk : (Nat.beq (k % 2) 0) = true
            · have hk' : k % 2 = 0 := Nat.eq_of_beq_eq_true hk
              rw [if_pos hk, if_neg (by omega)]
            · have hk' : ¬ k % 2 = 0 := fun h => hk (by rw [h]; rfl)
              rw [if_neg hk, ih _ _ _ _ hlt]
              by_cases e : k / 2 = m / 2
              · rw [if_pos e, if_pos (by omega)]
              · rw [if_neg e, if_neg (by omega)]; rfl
      | node l v r =>
        simp only [setF_cS, cond_eq]
        cases k with
        | zero => split <;> simp [get_c0]
        | succ k =>
          by_cases hm : (Nat.beq (m % 2) 0) = true
          · rw [if_pos hm]
            simp only [get_cS, cond_eq]
            have hm' : m % 2 = 0 := Nat.eq_of_beq_eq_true hm
            by_cases hk : (Nat.beq (k % 2) 0) = true
            · have hk' : k % 2 = 0 := Nat.eq_of_beq_eq_true hk
              rw [if_pos hk, if_pos hk, ih _ _ _ _ hlt]
              by_cases e : k / 2 = m / 2
              · rw [if_pos e, if_pos (by omega)]
              · rw [if_neg e, if_neg (by omega)]
            · rw [if_neg hk, if_neg hk, if_neg ?_]
              have hk' : ¬ k % 2 = 0 := fun h => hk (by rw [h]; rfl)
              omega
          · rw [if_neg hm]
            simp only [get_cS, cond_eq]
            have hm' : ¬ m % 2 = 0 := fun h => hm (by rw [h]; rfl)
            by_cases hk : (Nat.beq (k % 2) 0) = true
            · have hk' : k % 2 = 0 := Nat.eq_of_beq_eq_true hk
              rw [if_pos hk, if_pos hk, if_neg (by omega)]
            · have hk' : ¬ k % 2 = 0 := fun h => hk (by rw [h]; rfl)
              rw [if_neg hk, if_neg hk, ih _ _ _ _ hlt]
              by_cases e : k / 2 = m / 2
              · rw [if_pos e, if_pos (by omega)]
              · rw [if_neg e, if_neg (by omega)]
theorem get_set (t : Tr α) (n : Nat) (x : α) (k : Nat) : (t.set n x).get k = if k = n then some x else t.get k :=
  get_setF (n + 1) t n x k (by omega)
theorem get_set_same (t : Tr α) (n : Nat) (x : α) : (t.set n x).get n = some x := by rw [get_set, if_pos rfl]
theorem get_set_ne (t : Tr α) {n k : Nat} (x : α) (h : k ≠ n) : (t.set n x).get k = t.get k := by rw [get_set, if_neg h]
theorem get_one (x : α) (k : Nat) : (node nil (some x) nil).get k = if k = 0 then some x else none := by
  cases k with
  | zero => rfl
  | succ m => simp only [get_nil, get_cS, cond_eq]; split <;> simp
end Tr

/-- What 'cpTr' lays. -/
theorem cpTr_get {t : Tr AV} : ∀ {k off i : Nat} {acc r : Tr AV}, cpTr t k off i acc = some r →
    (∀ j, j < k → ∃ v, t.get (off + j) = some v) ∧
    ∀ m, r.get m = if i ≤ m ∧ m < i + k then t.get (off + (m - i)) else acc.get m := by
  intro k
  induction k with
  | zero =>
    intro off i acc r h
    cases h
    exact ⟨fun j hj => by omega, fun m => by rw [if_neg (by omega)]⟩
  | succ k ih =>
    intro off i acc r h
    have h : (ob (t.get off) fun v => cpTr t k (off + 1) (i + 1) (acc.set i v)) = some r := h
    simp only [ob_eq] at h
    obtain ⟨v, hv, h⟩ := h
    obtain ⟨h1, h2⟩ := ih h
    refine ⟨fun j hj => ?_, fun m => ?_⟩
    · cases j with
      | zero => exact ⟨v, hv⟩
      | succ j =>
        obtain ⟨u, hu⟩ := h1 j (by omega)
        exact ⟨u, by rw [← hu]; congr 1; omega⟩
    · rw [h2 m, Tr.get_set]
      by_cases hm : m = i
      · subst hm
        rw [if_neg (by omega), if_pos rfl, if_pos (by omega)]
        rw [show off + (m - m) = off by omega, hv]
      · rw [if_neg hm]
        by_cases hr : i + 1 ≤ m ∧ m < i + 1 + k
        · rw [if_pos hr, if_pos (by omega)]
          congr 1
          omega
        · rw [if_neg hr, if_neg (by omega)]
end Go.Ev
