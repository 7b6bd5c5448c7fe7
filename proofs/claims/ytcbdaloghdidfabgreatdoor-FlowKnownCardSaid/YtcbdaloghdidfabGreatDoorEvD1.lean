/- PART OF A PROOF: an evaluator over the model (its own text), and that it is sound: what it reckons, the machine does. No condition. -/
import Derived.Test.YtcbdaloghdidfabGreatDoorEvFn
namespace Go.Ev
open Go.RowKit
section
variable {P : Program} {ops : Array Oper}

theorem maskFind_mem {j m : Nat} : ∀ {acc : List Item}, maskFind j acc = some m → ∃ o, (j, o, m) ∈ acc := by
  intro acc
  induction acc with
  | nil => intro h; cases h
  | cons it acc ih =>
    intro h
    obtain ⟨i, o, m'⟩ := it
    simp only [maskFind, cond_eq] at h
    split at h
    · rename_i hb
      have : i = j := by simpa using hb
      subst this
      cases h
      exact ⟨o, .head _⟩
    · obtain ⟨o', h'⟩ := ih h
      exact ⟨o', .tail _ h'⟩
theorem maskOf_spec {acc : List Item} : ∀ {es : List Edge} {s m : Nat}, maskOf acc es s = some m →
    (∀ j, m.testBit j = true ↔ s.testBit j = true ∨ ∃ e ∈ es, Region.binds .any e = true ∧ (j = e.on ∨ ∃ m', maskFind e.on acc = some m' ∧ m'.testBit j = true)) ∧
      ∀ e ∈ es, Region.binds .any e = true → ∃ m', maskFind e.on acc = some m' := by
  intro es
  induction es with
  | nil => intro s m h; cases h; exact ⟨fun j => by simp, fun e he => by cases he⟩
  | cons e es ih =>
    intro s m h
    simp only [maskOf, cond_eq] at h
    split at h
    · rename_i hb
      simp only [ob_eq] at h
      obtain ⟨m1, h1, h⟩ := h
      obtain ⟨i1, i2⟩ := ih h
      refine ⟨fun j => ?_, fun e' he' hb' => ?_⟩
      · rw [i1 j]
        have hor : (Nat.lor (Nat.lor s (2 ^ e.on)) m1).testBit j = (s.testBit j || decide (e.on = j) || m1.testBit j) := by
          show ((s ||| 2 ^ e.on) ||| m1).testBit j = _
          rw [Nat.testBit_or, Nat.testBit_or, Nat.testBit_two_pow]
        rw [hor]
        constructor
        · rintro (h | ⟨e', he', hb', h⟩)
          · simp only [Bool.or_eq_true, decide_eq_true_eq] at h
            rcases h with (h | h) | h
            · exact .inl h
            · exact .inr ⟨e, .head _, hb, .inl h.symm⟩
            · exact .inr ⟨e, .head _, hb, .inr ⟨m1, h1, h⟩⟩
          · exact .inr ⟨e', .tail _ he', hb', h⟩
        · rintro (h | ⟨e', he', hb', h⟩)
          · exact .inl (by simp [h])
          · cases he' with
            | head =>
              rcases h with h | ⟨m', h', h⟩
              · exact .inl (by simp [h])
              · rw [h1] at h'; cases h'; exact .inl (by simp [h])
            | tail _ he' => exact .inr ⟨e', he', hb', h⟩
      · cases he' with
        | head => exact ⟨m1, h1⟩
        | tail _ he' => exact i2 e' he' hb'
    · rename_i hb
      obtain ⟨i1, i2⟩ := ih h
      refine ⟨fun j => ?_, fun e' he' hb' => ?_⟩
      · rw [i1 j]
        constructor
        · rintro (h | ⟨e', he', hb', h⟩)
          · exact .inl h
          · exact .inr ⟨e', .tail _ he', hb', h⟩
        · rintro (h | ⟨e', he', hb', h⟩)
          · exact .inl h
          · cases he' with
            | head => exact absurd hb' hb
            | tail _ he' => exact .inr ⟨e', he', hb', h⟩
      · cases he' with
        | head => exact absurd hb' hb
        | tail _ he' => exact i2 e' he' hb'

/-- Latest first: each item's mask is reckoned over what stands before it. -/
def GoodP : List Item → Prop
  | [] => True
  | it :: r => maskOf r it.2.1.after.toList 0 = some it.2.2 ∧ GoodP r
def key (it : Item) : Nat × Oper := (it.1, it.2.1)
theorem planF_spec : ∀ {f : Nat} {rem later : List (Nat × Oper)} {acc out : List Item}, planF f rem later acc = some out → GoodP acc → GoodP out ∧ (out.map key).Perm (rem ++ later ++ acc.map key) := by
  intro f
  induction f with
  | zero => intro rem later acc out h; cases h
  | succ f ih =>
    intro rem later acc out h hg
    cases rem with
    | nil =>
      cases later with
      | nil => cases h; exact ⟨hg, by simp⟩
      | cons x r =>
        simp only [planF] at h
        obtain ⟨i1, i2⟩ := ih h hg
        refine ⟨i1, i2.trans ?_⟩
        simp only [List.append_nil, List.nil_append]
        exact (List.reverse_perm _).append_right _
    | cons x r =>
      obtain ⟨i, o⟩ := x
      simp only [planF] at h
      split at h
      · rename_i m hm
        obtain ⟨i1, i2⟩ := ih h ⟨hm, hg⟩
        refine ⟨i1, i2.trans ?_⟩
        simp only [List.map_cons, List.cons_append]
        exact List.perm_middle
      · obtain ⟨i1, i2⟩ := ih h hg
        refine ⟨i1, i2.trans ?_⟩
        simp only [List.cons_append]
        have : (r ++ (i, o) :: later).Perm ((i, o) :: (r ++ later)) := List.perm_middle
        have h2 := this.append_right (acc.map key)
        simp only [List.cons_append] at h2
        exact h2
theorem enum_get : ∀ {l : List Oper} {k : Nat} {p : Nat × Oper}, p ∈ enumOps l k ↔ k ≤ p.1 ∧ l[p.1 - k]? = some p.2 := by
  intro l
  induction l with
  | nil => intro k p; simp [enumOps]
  | cons o l ih =>
    intro k p
    simp only [enumOps, List.mem_cons, ih]
    constructor
    · rintro (rfl | ⟨h1, h2⟩)
      · simp
      · refine ⟨by omega, ?_⟩
        rw [show p.1 - k = (p.1 - (k + 1)) + 1 by omega, List.getElem?_cons_succ]; exact h2
    · rintro ⟨h1, h2⟩
      by_cases h : p.1 = k
      · left
        rw [h, Nat.sub_self] at h2
        simp at h2
        exact Prod.ext h h2.symm
      · right
        refine ⟨by omega, ?_⟩
        rw [show p.1 - k = (p.1 - (k + 1)) + 1 by omega, List.getElem?_cons_succ] at h2; exact h2
theorem enum_nodup : ∀ {l : List Oper} {k : Nat}, ((enumOps l k).map (·.1)).Nodup := by
  intro l
  induction l with
  | nil => intro k; simp [enumOps]
  | cons o l ih =>
    intro k
    simp only [enumOps, List.map_cons, List.nodup_cons]
    refine ⟨fun h => ?_, ih⟩
    obtain ⟨p, hp, h⟩ := List.mem_map.1 h
    have := (enum_get.1 hp).1
    omega

/-- What holds of a plan. -/
structure PlanR (P : Program) (ops : Array Oper) (l : List Item) : Prop where
  at_ : ∀ it ∈ l, ops[it.1]? = some it.2.1
  all : ∀ i, i < ops.size → ∃ it ∈ l, it.1 = i
  nodup : (l.map (·.1)).Nodup
  edge : ∀ l1 it l2, l = l1 ++ it :: l2 → ∀ e ∈ it.2.1.after, Region.binds .any e = true → it.2.2.testBit e.on = true ∧ ∃ p ∈ l1, p.1 = e.on
  bits : ∀ l1 it l2, l = l1 ++ it :: l2 → ∀ j, it.2.2.testBit j = true → ∃ e ∈ it.2.1.after, Region.binds .any e = true ∧ (j = e.on ∨ ∃ p ∈ l1, p.1 = e.on ∧ p.2.2.testBit j = true)
  pair : l.Pairwise fun p q => pairS P ops p q = true
theorem goodP_split : ∀ {l2 : List Item} {it : Item} {l1 : List Item}, GoodP (l2 ++ it :: l1) → maskOf l1 it.2.1.after.toList 0 = some it.2.2 := by
  intro l2
  induction l2 with
  | nil => intro it l1 h; exact h.1
  | cons x l2 ih => intro it l1 h; exact ih h.2
theorem pairsS_spec : ∀ {l : List Item}, pairsS P ops l = true → l.Pairwise fun q p => pairS P ops p q = true := by
  intro l
  induction l with
  | nil => intro _; exact .nil
  | cons q l ih =>
    intro h
    simp only [pairsS, Bool.and_eq_true, List.all_eq_true] at h
    exact .cons h.1 (ih h.2)
theorem planS_spec {l : List Item} (h : planS P ops = some l) : PlanR P ops l := by
  simp only [planS, ob_eq, chk_eq, Option.some.injEq] at h
  obtain ⟨out, ho, hp, rfl⟩ := h
  obtain ⟨g1, g2⟩ := planF_spec ho trivial
  simp only [List.append_nil, List.map_nil] at g2
  have split : ∀ l1 it l2, out.reverse = l1 ++ it :: l2 → maskOf l1.reverse it.2.1.after.toList 0 = some it.2.2 := by
    intro l1 it l2 h
    have : out = l2.reverse ++ it :: l1.reverse := by
      have := congrArg List.reverse h
      simpa using this
    rw [this] at g1
    exact goodP_split g1
  refine ⟨fun it hit => ?_, fun i hi => ?_, ?_, fun l1 it l2 hl e he hb => ?_, fun l1 it l2 hl j hj => ?_, ?_⟩
  · have : key it ∈ enumOps ops.toList 0 := g2.mem_iff.1 (List.mem_map_of_mem (List.mem_reverse.1 hit))
    have := (enum_get.1 this).2
    simpa [key] using this
  · have : (i, ops[i]) ∈ enumOps ops.toList 0 := enum_get.2 ⟨Nat.zero_le _, by simp [hi]⟩
    have := g2.mem_iff.2 this
    obtain ⟨it, hit, he⟩ := List.mem_map.1 this
    exact ⟨it, List.mem_reverse.2 hit, by have := congrArg Prod.fst he; exact this⟩
  · have e : out.reverse.map (·.1) = (out.map key).reverse.map (·.1) := by simp [key]
    rw [e]
    have := (((List.reverse_perm _).trans g2).map (·.1)).nodup_iff.2 (enum_nodup (l := ops.toList) (k := 0))
    exact this
  · obtain ⟨m1, m2⟩ := maskOf_spec (split l1 it l2 hl)
    have he' : e ∈ it.2.1.after.toList := by simpa using he
    obtain ⟨m', hm'⟩ := m2 e he' hb
    obtain ⟨o, ho⟩ := maskFind_mem hm'
    exact ⟨(m1 e.on).2 (.inr ⟨e, he', hb, .inl rfl⟩), _, List.mem_reverse.1 ho, rfl⟩
  · obtain ⟨m1, m2⟩ := maskOf_spec (split l1 it l2 hl)
    rcases (m1 j).1 hj with h | ⟨e, he, hb, h⟩
    · simp at h
    · refine ⟨e, by simpa using he, hb, ?_⟩
      rcases h with h | ⟨m', hm', h⟩
      · exact .inl h
      · obtain ⟨o, ho⟩ := maskFind_mem hm'
        exact .inr ⟨_, List.mem_reverse.1 ho, rfl, h⟩
  · exact List.pairwise_reverse.2 (pairsS_spec hp)
end
end Go.Ev
