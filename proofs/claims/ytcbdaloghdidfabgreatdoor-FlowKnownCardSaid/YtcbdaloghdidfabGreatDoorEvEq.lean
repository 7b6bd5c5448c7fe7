/- PART OF A PROOF: an evaluator over the model (its own text), and that it is sound: what it reckons, the machine does. No condition. -/
import Derived.Test.YtcbdaloghdidfabGreatDoorEvDef2
import Derived.MapKept
namespace Go.Ev
theorem aaEq_eq {a b : AA} (h : aaEq a b = true) : a = b := by
  obtain ⟨a1, a2, a3, a4⟩ := a
  obtain ⟨b1, b2, b3, b4⟩ := b
  simp only [aaEq, Bool.and_eq_true, Nat.beq_eq] at h
  obtain ⟨⟨⟨rfl, rfl⟩, rfl⟩, rfl⟩ := h
  rfl
theorem eq_all : ∀ n, (∀ a b, avEq n a b = true → a = b) ∧ (∀ a b, avsEq n a b = true → a = b) ∧ ∀ a b, trEq n a b = true → a = b := by
  intro n
  induction n with
  | zero => exact ⟨fun a b h => by cases a <;> cases b <;> simp [avEq] at h, fun a b h => by simp [avsEq] at h, fun a b h => by simp [trEq] at h⟩
  | succ n ih =>
    obtain ⟨i1, i2, i3⟩ := ih
    refine ⟨fun a b h => ?_, fun a b h => ?_, fun a b h => ?_⟩
    · cases a <;> cases b <;> first | (simp [avEq] at h; done) | skip
      case bool.bool => simp [avEq] at h; rw [h]
      case int.int => simp [avEq] at h; rw [h.1, h.2]
      case str.str a b => simp only [avEq] at h; rw [(MapKept.bytes_beq a b).1 h]
      case ptr.ptr => simp only [avEq] at h; rw [aaEq_eq h]
      case nilptr.nilptr => rfl
      case slice.slice =>
        simp only [avEq, Bool.and_eq_true, Nat.beq_eq] at h
        obtain ⟨⟨⟨h1, h2⟩, h3⟩, h4⟩ := h
        rw [aaEq_eq h1, h2, h3, h4]
      case nilslice.nilslice => rfl
      case map.map => simp only [avEq, Nat.beq_eq] at h; rw [h]
      case nilmap.nilmap => rfl
      case func.func f x y f' x' y' =>
        simp only [avEq, Bool.and_eq_true] at h
        have hf : f = f' := by
          obtain ⟨⟨h, _⟩, _⟩ := h
          cases f <;> cases f' <;> first | (cases h; done) | skip
          rw [Nat.eq_of_beq_eq_true h]
        rw [hf, i2 _ _ h.1.2, i2 _ _ h.2]
      case nilFunc.nilFunc => rfl
      case nilIface.nilIface => rfl
      case agg.agg =>
        simp only [avEq, Bool.and_eq_true, Nat.beq_eq] at h
        rw [h.1, i3 _ _ h.2]
      case tup.tup => simp only [avEq] at h; rw [i2 _ _ h]
    · cases a <;> cases b <;> first | (simp [avsEq] at h; done) | skip
      · rfl
      · simp only [avsEq, Bool.and_eq_true] at h
        rw [i1 _ _ h.1, i2 _ _ h.2]
    · cases a <;> cases b <;> first | (simp [trEq] at h; done) | skip
      · rfl
      · rename_i l v r l' v' r'
        simp only [trEq, Bool.and_eq_true] at h
        obtain ⟨⟨h1, h2⟩, h3⟩ := h
        have hv : v = v' := by
          cases v <;> cases v' <;> first | rfl | (cases h1; done) | skip
          rw [i1 _ _ h1]
        rw [hv, i3 _ _ h2, i3 _ _ h3]
theorem same_eq {x : Option AV} {v : AV} (h : same x v = true) : x = some v := by
  unfold same at h
  split at h
  · rw [(eq_all 60).1 _ _ h]
  · cases h
end Go.Ev
