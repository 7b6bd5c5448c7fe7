/- PART OF A PROOF: an evaluator over the model (its own text), and that it is sound: what it reckons, the machine does. No condition. -/
import Derived.Test.YtcbdaloghdidfabGreatDoorEvStep
import Derived.Laws.CopyRow
import Derived.Laws.Cells
namespace Go.Ev
open Go.RowKit

section types
variable {P : Program} {w : World}
theorem und_run {t : TypeId} {d : TypeDesc} (h : P.underlying t = some d) : (underlying t).run P w = .ok d w := by
  simp [underlying, h]
theorem info_run {t : TypeId} {i : TypeInfo} (h : P.info? t = some i) : (typeInfo t).run P w = .ok i w := by
  simp [typeInfo, h]
theorem tsz_eq {t : TypeId} {k : Nat} (h : tsz P t = some k) : ∃ i, P.info? t = some i ∧ i.size = k := by
  simp only [tsz, ob_eq, Option.some.injEq] at h
  exact h
theorem size_run {t : TypeId} {k : Nat} (h : tsz P t = some k) : (sizeOf t).run P w = .ok k w := by
  obtain ⟨i, hi, rfl⟩ := tsz_eq h
  simp [sizeOf, info_run hi]
theorem agg_run {t : TypeId} {b : Bool} (h : tagg P t = some b) : (isAgg t).run P w = .ok b w := by
  unfold tagg at h
  split at h
  · rename_i hu; cases h; simp [isAgg, und_run hu]
  · rename_i hu; cases h; simp [isAgg, und_run hu]
  · rename_i d h1 h2 hu
    cases h
    cases d <;> first | (simp [isAgg, und_run hu]; done) | exact (h1 _ rfl).elim | exact (h2 _ _ rfl).elim
  · cases h
end types

theorem addr_eq {c : Addr} (h : c.spot = none) (n : Nat) : c.add n = ⟨c.block, c.off + n, none⟩ := by
  obtain ⟨b, o, s⟩ := c
  simp only at h
  subst h
  unfold Addr.add
  split
  · rename_i h; simp [h]
  · rfl
theorem addr_eq0 {c : Addr} (h : c.spot = none) : c = ⟨c.block, c.off, none⟩ := by
  obtain ⟨b, o, s⟩ := c
  simp only at h
  subst h
  rfl

theorem cell_heap {w : World} {b : Nat} {cs : Array Value} {ty : TypeId} {fr : Nat × Nat} (h : w.heap[b]? = some (.cells cs ty fr)) (o : Nat) :
    w.cell? ⟨b, o, none⟩ = cs[o]? := by
  simp [World.cell?, h]

section read
variable {G B : Nat} {S : Wd} {a : AA} {c : Addr} {E : Nat → Option AO} {R : Nat → Prop}
theorem cell_fixed (h : Rel G B S) (hA : ARel S a c) {n : Nat} {t : Tr AV} {ro : Bool} (hg : S.H.g a.b = some (.cells n t (.fixed ro))) {i : Nat} (hi : i < n) (h0 : a.off ≤ i) :
    ∃ x v, t.get i = some x ∧ cellOK x = true ∧ S.w.cell? ⟨c.block, c.off + (i - a.off), none⟩ = some v ∧ VRel S x v := by
  obtain ⟨hb, ho⟩ := hA.place _ _ _ hg
  obtain ⟨cs, ty, fr, he, _, hs, hr, _⟩ := h.obj _ _ hg
  obtain ⟨x, v, h1, h2, h3, h4⟩ := hr i (Nat.zero_le _) hi
  refine ⟨x, v, h1, h2, ?_, h4⟩
  rw [hb, ho, cell_heap he, ← h3]
  congr 1
  omega
theorem cell_rub (h : Rel G B S) (hA : ARel S a c) {n : Nat} {t : Tr AV} {st lo : Nat} (hg : S.H.g a.b = some (.cells n t (.rub st lo)))
    (h1 : st ≤ a.base) (h2 : lo ≤ a.tip) {i : Nat} (hi : i < a.tip) (h0 : a.off ≤ i) :
    ∃ x v, t.get i = some x ∧ cellOK x = true ∧ S.w.cell? ⟨c.block, c.off + (i - a.off), none⟩ = some v ∧ VRel S x v := by
  obtain ⟨h3, hp⟩ := hA.place _ _ _ hg
  have hp := hp h1 h2
  have hbo := hA.base
  obtain ⟨cs, ty, fr, he, _, _, hs, hr, _⟩ := h.obj _ _ hg
  obtain ⟨x, v, g1, g2, g3, g4⟩ := hr i (by omega) (by omega)
  refine ⟨x, v, g1, g2, ?_, g4⟩
  have e0 : S.w.cell? ⟨(S.μ a.b).1, (S.μ a.b).2 + (i - st), none⟩ = some v := by rw [cell_heap he]; exact g3
  rcases hp with ⟨hb, ho⟩ | hO
  · rw [hb, ho, ← e0]
    congr 2
    omega
  · rw [hO.same i h0 hi]; exact e0

/-- A stretch of cells that reads as a part of a trie. -/
def Seg (S : Wd) (tr : Tr AV) (k : Nat) (c : Addr) (cs : List Value) : Prop :=
  cs.length = k ∧ (∀ j v, cs[j]? = some v → S.w.cell? (c.add j) = some v) ∧ ∀ i, i < k → ∃ x v, tr.get i = some x ∧ cellOK x = true ∧ cs[i]? = some v ∧ VRel S x v
theorem seg_of {tr : Tr AV} {k : Nat} (hc : c.spot = none) (h : ∀ i, i < k → ∃ x v, tr.get i = some x ∧ cellOK x = true ∧ S.w.cell? ⟨c.block, c.off + i, none⟩ = some v ∧ VRel S x v) :
    ∃ cs, Seg S tr k c cs := by
  refine ⟨(List.range k).map fun i => (S.w.cell? ⟨c.block, c.off + i, none⟩).getD undef, by simp, fun j v hj => ?_, fun i hi => ?_⟩
  · have hk : j < k := by
      rcases Nat.lt_or_ge j k with h | h
      · exact h
      · simp [h] at hj
    obtain ⟨x, u, h1, h2, h3, h4⟩ := h j hk
    simp [hk, h3] at hj
    rw [addr_eq hc, h3, hj]
  · obtain ⟨x, u, h1, h2, h3, h4⟩ := h i hi
    exact ⟨x, u, h1, h2, by simp [hi, h3], h4⟩
theorem Seg.agg {tr : Tr AV} {k : Nat} {cs : List Value} (h : Seg S tr k c cs) : VRel S (.agg k tr) (.agg cs.toArray) := by
  refine .agg k tr cs (fun i => (tr.get i).getD undefA) h.1 (fun i hi => ?_) (fun i hi => ?_)
  · obtain ⟨x, v, h1, h2, _, _⟩ := h.2.2 i hi
    simp [h1, h2]
  · obtain ⟨x, v, h1, h2, h3, h4⟩ := h.2.2 i hi
    simp only [h1, Option.getD_some, List.getD, h3]
    exact h4

theorem rdCell_rel {H : AHeap} {x : AV} (h : Rel G B S) (hA : ARel S a c) (hH : At E R H S) (hr : rdCell H a = some x) :
    ∃ v, S.w.cell? c = some v ∧ VRel S x v ∧ cellOK x = true := by
  simp only [rdCell, ob_eq] at hr
  obtain ⟨o, hg, hr⟩ := hr
  have hg' : S.H.g a.b = some o := hH.get hg
  rw [addr_eq0 hA.spot]
  cases o with
  | cells n t k =>
    cases k with
    | fixed ro =>
      simp only [chk_eq] at hr
      obtain ⟨h1, hr⟩ := hr
      have h1 : a.off < n := by simp [Nat.blt] at h1; omega
      obtain ⟨y, v, g1, g2, g3, g4⟩ := cell_fixed h hA hg' h1 (Nat.le_refl _)
      rw [hr] at g1
      cases g1
      exact ⟨v, by simpa using g3, g4, g2⟩
    | rub st lo =>
      simp only [chk_eq, Bool.and_eq_true] at hr
      obtain ⟨⟨⟨h1, h2⟩, h4⟩, hr⟩ := hr
      have h1 : st ≤ a.base := by simpa using h1
      have h2 : a.off < a.tip := by simp [Nat.blt] at h2; omega
      have h4 : lo ≤ a.tip := by simpa using h4
      obtain ⟨y, v, g1, g2, g3, g4⟩ := cell_rub h hA hg' h1 h4 h2 (Nat.le_refl _)
      rw [hr] at g1
      cases g1
      exact ⟨v, by simpa using g3, g4, g2⟩
  | map es => cases hr
  | loop l => cases hr
  | dfr => cases hr
  | shut => cases hr
theorem rdCells_rel {H : AHeap} {k : Nat} {tr : Tr AV} (h : Rel G B S) (hA : ARel S a c) (hH : At E R H S) (hr : rdCells H a k = some tr) :
    ∃ cs, Seg S tr k c cs := by
  simp only [rdCells, ob_eq] at hr
  obtain ⟨o, hg, hr⟩ := hr
  have hg' : S.H.g a.b = some o := hH.get hg
  refine seg_of hA.spot fun i hi => ?_
  cases o with
  | cells n t kd =>
    cases kd with
    | fixed ro =>
      simp only [cond_eq] at hr
      split at hr
      · rename_i hb
        simp only [Bool.and_eq_true] at hb
        have h1 : a.off = 0 := by simpa using hb.1
        have h2 : k = n := by simpa using hb.2
        cases hr
        obtain ⟨y, v, g1, g2, g3, g4⟩ := cell_fixed h hA hg' (i := i) (by omega) (by omega)
        exact ⟨y, v, g1, g2, by rw [h1] at g3; simpa using g3, g4⟩
      · simp only [chk_eq] at hr
        obtain ⟨h1, hr⟩ := hr
        have h1 : a.off + k ≤ n := by simpa using h1
        obtain ⟨c1, c2⟩ := cpTr_get hr
        obtain ⟨y, v, g1, g2, g3, g4⟩ := cell_fixed h hA hg' (i := a.off + i) (by omega) (by omega)
        refine ⟨y, v, by rw [c2 i, if_pos (by omega)]; simpa using g1, g2, ?_, g4⟩
        rw [← g3]; congr 2; omega
    | rub st lo =>
      simp only [chk_eq, Bool.and_eq_true] at hr
      obtain ⟨⟨⟨h1, h2⟩, h4⟩, hr⟩ := hr
      have h1 : st ≤ a.base := by simpa using h1
      have h2 : a.off + k ≤ a.tip := by simpa using h2
      have h4 : lo ≤ a.tip := by simpa using h4
      obtain ⟨c1, c2⟩ := cpTr_get hr
      obtain ⟨y, v, g1, g2, g3, g4⟩ := cell_rub h hA hg' h1 h4 (i := a.off + i) (by omega) (by omega)
      refine ⟨y, v, by rw [c2 i, if_pos (by omega)]; simpa using g1, g2, ?_, g4⟩
      rw [← g3]; congr 2; omega
  | map es => cases hr
  | loop l => cases hr
  | dfr => cases hr
  | shut => cases hr
theorem load_rel {P : Program} {H : AHeap} {t : TypeId} {x : AV} (h : Rel G B S) (hA : ARel S a c) (hH : At E R H S) (hr : load P H t a = some x) :
    ∃ v, (loadVar t c).run P S.w = .ok v S.w ∧ VRel S x v := by
  simp only [load, ob_eq] at hr
  obtain ⟨b, hb, hr⟩ := hr
  cases b with
  | true =>
    simp only [ob_eq, Option.some.injEq] at hr
    obtain ⟨k, hk, tr, ht, rfl⟩ := hr
    obtain ⟨cs, hs⟩ := rdCells_rel h hA hH ht
    refine ⟨.agg cs.toArray, ?_, hs.agg⟩
    have := run_loadCells_list (P := P) S.w c cs hs.2.1
    simp [loadVar, agg_run hb, size_run hk, ← hs.1, this]
  | false =>
    obtain ⟨v, hv, hx, _⟩ := rdCell_rel h hA hH hr
    exact ⟨v, by simp [loadVar, agg_run hb, hv], hx⟩
end read
end Go.Ev
