/- PART OF A PROOF: an evaluator over the model (its own text), and that it is sound: what it reckons, the machine does. No condition. -/
import Derived.Test.YtcbdaloghdidfabGreatDoorEvWr
import Derived.Laws.Tables
import Derived.Laws.StructEq
import Derived.ChangeKeysEq
namespace Go.Ev
open Go.RowKit

/-! ### Constants -/
theorem ofCell_rel {S : Wd} {v : Value} {x : AV} (h : ofCell v = some x) : VRel S x v ∧ cellOK x = true := by
  cases v with
  | bool b => cases h; exact ⟨.bool _, rfl⟩
  | int k n => cases h; exact ⟨.int _ _, rfl⟩
  | string s => cases h; exact ⟨.str _, rfl⟩
  | pointer a => cases a with
    | none => cases h; exact ⟨.nilptr, rfl⟩
    | some a => cases h
  | slice a l c => cases a with
    | none => cases l with
      | zero => cases c with
        | zero => cases h; exact ⟨.nilslice, rfl⟩
        | succ c => cases h
      | succ l => cases h
    | some a => cases h
  | map r => cases r with
    | none => cases h; exact ⟨.nilmap, rfl⟩
    | some r => cases h
  | nilFunc => cases h; exact ⟨.nilFunc, rfl⟩
  | nilIface => cases h; exact ⟨.nilIface, rfl⟩
  | _ => cases h
theorem ofCells_rel {S : Wd} : ∀ {vs : List Value} {i : Nat} {t r : Tr AV}, ofCells vs i t = some r →
    (∀ j, j < vs.length → ∃ x v, r.get (i + j) = some x ∧ cellOK x = true ∧ vs[j]? = some v ∧ VRel S x v) ∧ ∀ j, j < i → r.get j = t.get j := by
  intro vs
  induction vs with
  | nil =>
    intro i t r h
    cases h
    exact ⟨fun j hj => absurd hj (Nat.not_lt_zero _), fun _ _ => rfl⟩
  | cons v vs ih =>
    intro i t r h
    simp only [ofCells, ob_eq] at h
    obtain ⟨a, ha, h⟩ := h
    obtain ⟨h1, h2⟩ := ih h
    obtain ⟨hr, hc⟩ := ofCell_rel (S := S) ha
    refine ⟨fun j hj => ?_, fun j hj => ?_⟩
    · cases j with
      | zero => exact ⟨a, v, by rw [Nat.add_zero, h2 i (by omega), Tr.get_set_same], hc, rfl, hr⟩
      | succ j =>
        obtain ⟨x, u, g1, g2, g3, g4⟩ := h1 j (by simpa using hj)
        exact ⟨x, u, by rw [← g1]; congr 1; omega, g2, by simpa using g3, g4⟩
    · rw [h2 j (by omega), Tr.get_set_ne _ _ (by omega)]
theorem Vals.agg {S : Wd} {tr : Tr AV} {k : Nat} {cs : List Value} (h : Vals S tr k cs) : VRel S (.agg k tr) (.agg cs.toArray) := by
  refine .agg k tr cs (fun i => (tr.get i).getD undefA) h.1 (fun i hi => ?_) (fun i hi => ?_)
  · obtain ⟨x, v, h1, h2, _, _⟩ := h.2 i hi
    simp [h1, h2]
  · obtain ⟨x, v, h1, h2, h3, h4⟩ := h.2 i hi
    simp only [h1, Option.getD_some, List.getD, h3]
    exact h4
theorem ofVal_rel {S : Wd} {v : Value} {x : AV} (h : ofVal v = some x) : VRel S x v := by
  unfold ofVal at h
  split at h
  · rename_i cs
    simp only [ob_eq, Option.some.injEq] at h
    obtain ⟨t, ht, rfl⟩ := h
    obtain ⟨h1, _⟩ := ofCells_rel (S := S) ht
    have : Vals S t cs.size cs.toList := ⟨by simp, fun i hi => by simpa using h1 i (by simpa using hi)⟩
    exact this.agg
  · exact (ofCell_rel h).1
theorem agg_vals {S : Wd} {tr : Tr AV} {k : Nat} {v : Value} (h : VRel S (.agg k tr) v) : ∃ cs : Array Value, v = .agg cs ∧ Vals S tr k cs.toList := by
  cases h with
  | agg n t cs g hn hg h =>
    refine ⟨cs.toArray, rfl, by simpa using hn, fun i hi => ?_⟩
    have hl : i < cs.length := by omega
    obtain ⟨h1, h2⟩ := hg i hi
    exact ⟨_, cs.getD i undef, h1, h2, by simp [List.getD, hl], h i hi⟩
theorem zero_run {P : Program} {w : World} {S : Wd} {t : TypeId} {z : AV} (h : tzero P t = some z) : ∃ v, (zeroValue t).run P w = .ok v w ∧ VRel S z v ∧ ∃ i, P.info? t = some i ∧ i.zero = some v := by
  simp only [tzero, ob_eq] at h
  obtain ⟨i, hi, v, hv, h⟩ := h
  exact ⟨v, by simp [zeroValue, info_run hi, hv], ofVal_rel h, i, hi, hv⟩

/-! ### Operands -/
section opnd
variable {P : Program} {B : Nat} {S : Wd} {tm : Tr AV} {a : Act}
/-- What an operand yields is what it reads as. -/
def ORel (P : Program) (S : Wd) (tm : Tr AV) (a : Act) (x : Operand) : Prop := ∀ v, evO P tm x = some v → VRel S v (a.eval x)
theorem orel_of (h : Rel P.globals.size B S) (ht : TmRel S tm.get a.tmps) (x : Operand) : ORel P S tm a x := by
  intro v hv
  cases x with
  | tmp t => exact (ht t v hv).2
  | const c => exact ofVal_rel hv
  | global g =>
    simp only [evO, chk_eq, Option.some.injEq] at hv
    obtain ⟨h1, rfl⟩ := hv
    have h1 : g < P.globals.size := by simp [Nat.blt] at h1; omega
    refine .ptr _ _ ⟨h.gnx g h1, Nat.le_refl _, rfl, fun n t k hg => ?_⟩
    have hm := h.glob _ _ h1 hg
    cases k with
    | fixed ro => refine ⟨?_, rfl⟩; show g = (S.μ g).1; rw [hm]
    | rub st lo => refine ⟨Nat.zero_le _, fun _ _ => .inl ⟨?_, ?_⟩⟩
                   · show g = (S.μ g).1; rw [hm]
                   · show 0 = (S.μ g).2 + (0 - st); rw [hm]; simp
  | func f => cases hv; exact .func _ _ [] [] [] [] (.func f) .nil .nil
theorem evOs_rel : ∀ {l : List Operand} {vs : List AV}, (∀ x ∈ l, ORel P S tm a x) → evOs P tm l = some vs → VRels S vs (l.map a.eval) := by
  intro l
  induction l with
  | nil => intro vs _ h; cases h; exact .nil
  | cons o r ih =>
    intro vs hO h
    simp only [evOs, ob_eq, Option.some.injEq] at h
    obtain ⟨v, hv, vs', hvs, rfl⟩ := h
    exact .cons _ _ _ _ (hO o (by simp) v hv) (ih (fun x hx => hO x (by simp [hx])) hvs)
/-- Parts: the same places, values that read so. -/
def PRel (S : Wd) : List (Nat × AV) → List (Nat × Value) → Prop
  | [], [] => True
  | (i, x) :: xs, (j, v) :: vs => i = j ∧ VRel S x v ∧ PRel S xs vs
  | _, _ => False
theorem evParts_rel : ∀ {l : List (Nat × Operand)} {vs : List (Nat × AV)}, (∀ p ∈ l, ORel P S tm a p.2) → evParts P tm l = some vs → PRel S vs (l.map fun (i, x) => (i, a.eval x)) := by
  intro l
  induction l with
  | nil => intro vs _ h; cases h; exact trivial
  | cons o r ih =>
    intro vs hO h
    obtain ⟨i, o⟩ := o
    simp only [evParts, ob_eq, Option.some.injEq] at h
    obtain ⟨v, hv, vs', hvs, rfl⟩ := h
    exact ⟨rfl, hO (i, o) (by simp) v hv, ih (fun x hx => hO x (by simp [hx])) hvs⟩
theorem evOpt_rel {x : Option Operand} {r : Option AV} (hO : ∀ y, x = some y → ORel P S tm a y) (h : evOpt P tm x = some r) :
    match r with | none => x = none | some v => ∃ y, x = some y ∧ VRel S v (a.eval y) := by
  cases x with
  | none => cases h; rfl
  | some y =>
    simp only [evOpt, ob_eq, Option.some.injEq] at h
    obtain ⟨v, hv, rfl⟩ := h
    exact ⟨y, rfl, hO y rfl v hv⟩
end opnd

/-! ### Parts of a value -/
section parts
variable {P : Program} {S : Wd}
theorem foldl_set (off : Nat) (vs : List Value) : ∀ (j : Nat) (cs : Array Value), ((vs.zipIdx j).foldl (fun cs (c, j) => cs.setIfInBounds (off + j) c) cs).size = cs.size := by
  induction vs with
  | nil => intro j cs; rfl
  | cons v vs ih => intro j cs; simp only [List.zipIdx_cons, List.foldl_cons]; rw [ih]; simp
theorem foldl_set_get (vs : List Value) : ∀ (j : Nat) (cs : Array Value) (off i : Nat), off + j + vs.length ≤ cs.size →
    ((vs.zipIdx j).foldl (fun cs (c, j) => cs.setIfInBounds (off + j) c) cs)[i]? = if off + j ≤ i ∧ i < off + j + vs.length then vs[i - (off + j)]? else cs[i]? := by
  induction vs with
  | nil => intro j cs off i _; simp; omega
  | cons v vs ih =>
    intro j cs off i h
    simp only [List.length_cons] at h
    simp only [List.zipIdx_cons, List.foldl_cons]
    rw [ih (j + 1) _ off i (by simp; omega)]
    by_cases h1 : off + (j + 1) ≤ i ∧ i < off + (j + 1) + vs.length
    · rw [if_pos h1, if_pos (by simp; omega)]
      rw [show i - (off + j) = (i - (off + (j + 1))) + 1 by omega, List.getElem?_cons_succ]
    · rw [if_neg h1]
      by_cases h2 : i = off + j
      · subst h2
        rw [if_pos (by simp)]
        have hlt : off + j < cs.size := by omega
        simp [hlt]
      · rw [if_neg (by simp; omega)]
        simp [Array.getElem?_setIfInBounds_ne (Ne.symm h2)]
theorem fill_rel {n : Nat} (place : Nat → Option (Nat × Nat)) (place' : Nat → Option (Nat × Nat)) (hp : ∀ i o s, place i = some (o, s) → place' i = some (o, s)) :
    ∀ {xs : List (Nat × AV)} {vs : List (Nat × Value)} {t t' : Tr AV} {cs : Array Value}, PRel S xs vs → Vals S t n cs.toList → fillParts place n xs t = some t' →
      ∃ cs', Instr.fill place' cs vs = some cs' ∧ Vals S t' n cs'.toList := by
  intro xs
  induction xs with
  | nil =>
    intro vs t t' cs hr hv h
    cases vs with
    | nil => cases h; exact ⟨cs, rfl, hv⟩
    | cons _ _ => exact hr.elim
  | cons p xs ih =>
    intro vs t t' cs hr hv h
    cases vs with
    | nil => obtain ⟨i, x⟩ := p; exact hr.elim
    | cons q vs =>
      obtain ⟨i, x⟩ := p
      obtain ⟨j, v⟩ := q
      obtain ⟨rfl, hx, hr⟩ := hr
      simp only [fillParts, ob_eq, chk_eq, Bool.and_eq_true] at h
      obtain ⟨⟨off, size⟩, hpl, ⟨⟨h1, h2⟩, h3⟩, t1, hc, h⟩ := h
      have h2 : cnt x = size := by simpa using h2
      have h3 : off + size ≤ n := by simpa using h3
      have hxv := cells_of_rel hx h1
      rw [h2] at hxv
      have hcs : cs.size = n := by simpa using hv.1
      have hvs : v.cells.size = size := by simpa using hxv.1
      obtain ⟨c1, c2⟩ := cpTr_get hc
      have hl : v.cells.toList.length = size := by simpa using hvs
      have key : Vals S t1 n ((v.cells.zipIdx.foldl (fun cs (c, j) => cs.setIfInBounds (off + j) c) cs)).toList := by
        have e : v.cells.zipIdx.foldl (fun cs (c, j) => cs.setIfInBounds (off + j) c) cs = (v.cells.toList.zipIdx 0).foldl (fun cs (c, j) => cs.setIfInBounds (off + j) c) cs := by
          rw [← Array.foldl_toList, Array.toList_zipIdx]
        rw [e]
        refine ⟨by simp only [Array.length_toList]; rw [foldl_set]; exact hcs, fun i hi => ?_⟩
        have hg := foldl_set_get v.cells.toList 0 cs off i (by simp only [hl]; omega)
        simp only [Nat.add_zero, hl] at hg
        rw [Array.getElem?_toList, hg, c2 i]
        by_cases hin : off ≤ i ∧ i < off + size
        · rw [if_pos hin, if_pos hin]
          obtain ⟨y, u, g1, g2, g3, g4⟩ := hxv.2 (i - off) (by omega)
          exact ⟨y, u, by simpa using g1, g2, g3, g4⟩
        · rw [if_neg hin, if_neg hin]
          obtain ⟨y, u, g1, g2, g3, g4⟩ := hv.2 i hi
          exact ⟨y, u, g1, g2, by simpa using g3, g4⟩
      obtain ⟨cs', e1, e2⟩ := ih hr key h
      refine ⟨cs', ?_, e2⟩
      simp only [Instr.fill, hp _ _ _ hpl]
      rw [if_neg (by simp; omega)]
      exact e1
theorem part_rel {w : World} {t : TypeId} {n off : Nat} {tr : Tr AV} {x : AV} {cs : Array Value} (hv : Vals S tr n cs.toList) (h : part P t n tr off = some x) :
    ∃ v, (Go.part t cs off).run P w = .ok v w ∧ VRel S x v := by
  simp only [part, ob_eq] at h
  obtain ⟨b, hb, h⟩ := h
  cases b with
  | true =>
    simp only [ob_eq, chk_eq, Option.some.injEq] at h
    obtain ⟨k, hk, h1, tr', ht, rfl⟩ := h
    have h1 : off + k ≤ n := by simpa using h1
    obtain ⟨c1, c2⟩ := cpTr_get ht
    have hcs : cs.size = n := by simpa using hv.1
    refine ⟨.agg (cs.extract off (off + k)), by simp [Go.part, agg_run hb, size_run hk], ?_⟩
    have : Vals S tr' k (cs.extract off (off + k)).toList := by
      refine ⟨by simp; omega, fun i hi => ?_⟩
      obtain ⟨y, u, g1, g2, g3, g4⟩ := hv.2 (off + i) (by omega)
      refine ⟨y, u, by rw [c2 i, if_pos (by omega)]; simpa using g1, g2, ?_, g4⟩
      rw [← g3]
      simp [Array.getElem?_toList]
      rw [List.getElem?_take, if_pos hi, List.getElem?_drop, Array.getElem?_toList]
    exact this.agg
  | false =>
    simp only [chk_eq] at h
    obtain ⟨h1, h⟩ := h
    have h1 : off < n := by simp [Nat.blt] at h1; omega
    obtain ⟨y, u, g1, g2, g3, g4⟩ := hv.2 off h1
    rw [h] at g1
    cases g1
    refine ⟨u, ?_, g4⟩
    have g3' : cs[off]? = some u := by simpa using g3
    simp [Go.part, agg_run hb, g3']
end parts
end Go.Ev
