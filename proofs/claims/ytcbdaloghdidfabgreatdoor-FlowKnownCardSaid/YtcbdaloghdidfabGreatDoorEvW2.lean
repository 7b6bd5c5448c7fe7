/- PART OF A PROOF: an evaluator over the model (its own text), and that it is sound: what it reckons, the machine does. No condition. -/
import Derived.Test.YtcbdaloghdidfabGreatDoorEvW
namespace Go.Ev
open Go.RowKit
/-- An operation that works on the heap. -/
def WRun (P : Program) (B : Nat) (E : Nat → Option AO) (R : Nat → Prop) (S : Wd) (H' : AHeap) (r : AV) (s : Sem Value) : Prop :=
  ∃ v' S', s.run P S.w = .ok v' S'.w ∧ VRel S' r v' ∧ Rel P.globals.size B S' ∧ Stp B S S' ∧ At E R H' S'
section
variable {P : Program} {B : Nat} {S : Wd} {E : Nat → Option AO} {R : Nat → Prop} {H H' : AHeap}

theorem drew_eq (w : World) : w.drew = { w with drawn := w.drawn + 1 } := rfl
theorem src_run {t e : TypeId} {size m : Nat} {x : AV} {v : Value} {src : Tr AV} (ht : P.underlying t = some (.slice e)) (h : Rel P.globals.size B S) (hH : At E R H S) (hx : VRel S x v) (he : srcCells H size x = some (m, src)) :
    ∃ news, Src P size t v m news S.w ∧ Vals S src (m * size) news := by
  unfold srcCells at he
  split at he
  · cases he
    cases hx
    exact ⟨[], Src.ofNil S.w ht 0, by simp, fun i hi => absurd hi (by simp)⟩
  · simp only [ob_eq, Option.some.injEq, Prod.mk.injEq] at he
    obtain ⟨t', ht', rfl, rfl⟩ := he
    cases hx
    rename_i c cap' hA hC
    obtain ⟨cs, hs⟩ := rdCells_rel h hA hH ht'
    exact ⟨cs, Src.ofSlice S.w ht c _ _ cs hs.1 hs.2.1 hs.vals.one, hs.vals⟩
  · cases he
theorem app_room {t e ty : TypeId} {i : TypeInfo} {w w' : World} {c : Addr} {sLen sCap n : Nat} {x : Value} {news : List Value} (ht : P.underlying t = some (.slice e)) (hi : P.info? e = some i)
    (hs : Src P i.size t x n news w) (hroom : sLen + n ≤ sCap) (hst : (storeCells (c.add (sLen * i.size)) news).run P w = .ok () w') :
    (Builtin.append_ #[t, t] ty #[.slice (some c) sLen sCap, x]).run P w = .ok (.slice (some c) (sLen + n) sCap) w' := by
  simp [Builtin.append_, run_underlying ht, sizeOf, typeInfo, hi, hs.len, hroom, hs.cells, hst]

theorem vals_append {tr src t' : Tr AV} {k m : Nat} {olds news : List Value} (ho : Vals S tr k olds) (hn : Vals S src m news) (hc : cpTr src m 0 k tr = some t') : Vals S t' (k + m) (olds ++ news) := by
  obtain ⟨c1, c2⟩ := cpTr_get hc
  refine ⟨by simp [ho.1, hn.1], fun i hi => ?_⟩
  by_cases h : i < k
  · obtain ⟨x, v, g1, g2, g3, g4⟩ := ho.2 i h
    exact ⟨x, v, by rw [c2 i, if_neg (by omega)]; exact g1, g2, by rw [List.getElem?_append_left (by rw [ho.1]; exact h)]; exact g3, g4⟩
  · obtain ⟨x, v, g1, g2, g3, g4⟩ := hn.2 (i - k) (by omega)
    refine ⟨x, v, by rw [c2 i, if_pos (by omega)]; simpa using g1, g2, ?_, g4⟩
    rw [List.getElem?_append_right (by rw [ho.1]; omega), ho.1]; exact g3

/-- A growing row, laid. -/
theorem laid_rub {G z n cap' len size : Nat} {t : Tr AV} {vs : List Value} {cs : Array Value} {ty : TypeId} (h : Rel G B S) (hz : ¬ S.H.al z) (hv : Vals S t n vs) (hcs : ∀ i, i < n → cs[i]? = vs[i]?)
    (hn : n = len * size) (hs : cs.size = cap' * size) (hle : len ≤ cap') (hsz : 1 ≤ size) :
    Rel G B (S.new z (.cells n t (.rub 0 n)) (.cells cs ty)) ∧ Stp B S (S.new z (.cells n t (.rub 0 n)) (.cells cs ty)) ∧
      VRel (S.new z (.cells n t (.rub 0 n)) (.cells cs ty)) (.slice ⟨z, 0, n, 0⟩ len len size) (.slice (some ⟨S.w.heap.size, 0, none⟩) len cap') := by
  have sp : Stp B S (S.new z (.cells n t (.rub 0 n)) (.cells cs ty)) := stp_new h hz
  have hh : (S.new z (.cells n t (.rub 0 n)) (.cells cs ty)).w.heap[S.w.heap.size]? = some (.cells cs ty) := heap_alloc_new _ _
  have hge : n ≤ cs.size := by rw [hs, hn]; exact Nat.mul_le_mul_right _ hle
  refine ⟨rel_new h hz ?_, sp, .slice _ _ _ _ _ _ ⟨.inl rfl, Nat.le_refl _, rfl, fun n' t' k' hg => ?_⟩ ⟨Nat.le_refl _, fun e => absurd e (by omega), hle, fun _ n' t' st lo hg _ _ _ cs2 ty2 fr2 he2 => ?_⟩⟩
  · refine ⟨cs, ty, (0, 0), by rw [new_μ_nx]; exact hh, Nat.le_refl _, Nat.zero_le _, by rw [new_μ_nx]; simpa using hge, ?_, by rw [new_μ_nx]; exact h.base, rfl⟩
    rw [new_μ_nx]
    intro i _ hi
    obtain ⟨x, v, g1, g2, g3, g4⟩ := hv.2 i hi
    exact ⟨x, v, g1, g2, by simp only [Nat.zero_add, Nat.sub_zero]; rw [hcs i hi]; exact g3, g4.later sp.later⟩
  · have hg : (S.new z (.cells n t (.rub 0 n)) (.cells cs ty)).H.g z = some (.cells n' t' k') := hg
    rw [new_g_nx] at hg
    cases hg
    refine ⟨Nat.le_refl _, fun _ _ => .inl ?_⟩
    show S.w.heap.size = ((S.new z _ _).μ z).1 ∧ 0 = ((S.new z _ _).μ z).2 + (0 - 0)
    rw [new_μ_nx]
    exact ⟨rfl, rfl⟩
  · have hg : (S.new z (.cells n t (.rub 0 n)) (.cells cs ty)).H.g z = some (.cells n' t' (.rub st lo)) := hg
    rw [new_g_nx] at hg
    cases hg
    have he2 : (S.new z (.cells n t (.rub 0 n)) (.cells cs ty)).w.heap[((S.new z (.cells n t (.rub 0 n)) (.cells cs ty)).μ z).1]? = some (.cells cs2 ty2 fr2) := he2
    rw [new_μ_nx, hh] at he2
    cases he2
    simp only [Nat.zero_add]
    omega

theorem zOK_eq {i : TypeInfo} (h : zOK i = true) : ∃ z, i.zero = some z ∧ z.cells.size = i.size := by
  unfold zOK at h
  split at h
  · rename_i z hz; exact ⟨z, hz, by simpa using h⟩
  · cases h
theorem fit_of {need cap bytes : Nat} (h : cap < need) (hn : need ≤ 1000000) (hb : bytes ≤ 100000) : Builtin.nextslicecap need cap * bytes ≤ 281474976710656 := by
  have h1 := nextslicecap_le h
  have h2 : Builtin.nextslicecap need cap * bytes ≤ 2000000 * 100000 := Nat.mul_le_mul (by omega) hb
  omega
theorem grown_size {olds news : List Value} {z : Value} {i : TypeInfo} {len m cap' : Nat} (hz : z.cells.size = i.size) (ho : olds.length = len * i.size) (hn : news.length = m * i.size) (hge : len + m ≤ cap') :
    ((olds ++ news).toArray ++ Builtin.zeroCells z.cells (cap' - (len + m))).size = cap' * i.size := by
  rw [Array.size_append, size_zeroCells, hz]
  simp only [List.size_toArray, List.length_append, ho, hn]
  rw [← Nat.add_mul, ← Nat.add_mul]
  congr 1
  omega

theorem appendNew_run {t e ty : TypeId} {i : TypeInfo} {base : Option Addr} {len m cap' : Nat} {olds news : List Value} {t' : Tr AV} {x : Value}
    (ht : P.underlying t = some (.slice e)) (hi : P.info? e = some i) (hzo : zOK i = true) (hsz : 1 ≤ i.size) (hby : i.bytes ≤ 100000) (h : Rel P.globals.size B S) (hH : At E R H S)
    (hs : Src P i.size t x m news S.w) (hall : Vals S t' ((len + m) * i.size) (olds ++ news)) (hol : olds.length = len * i.size) (hrun : ∀ w' : World, w'.heap = S.w.heap → (Builtin.firstCells i.size len (.slice base len cap')).run P w' = .ok olds.toArray w')
    (hg : cap' < len + m) (hn : len + m ≤ 1000000) :
    WRun P B E R S (newH H (.cells ((len + m) * i.size) t' (.rub 0 ((len + m) * i.size)))) (.slice ⟨H.next, 0, (len + m) * i.size, 0⟩ (len + m) (len + m) i.size)
      (Builtin.append_ #[t, t] ty #[.slice base len cap', x]) := by
  obtain ⟨z, hz, hzs⟩ := zOK_eq hzo
  have hr := run_append_grow_src (P := P) S.w t t ty e i z ht hi hz base len cap' olds (hrun _ rfl) x m news hs hg (by omega) (fit_of hg hn hby)
  have hge := grownCap_ge S.w (len + m) cap' e
  have h0 := rel_drewN h 1
  have a0 := hH.drewN 1
  have hnl := hs.newsLen
  obtain ⟨l1, l2, l3⟩ := laid_rub (ty := e) (cap' := grownCap S.w (len + m) cap' e) (cs := (olds ++ news).toArray ++ Builtin.zeroCells z.cells (grownCap S.w (len + m) cap' e - (len + m))) h0 a0.fresh (hall.later (stp_drewN B S 1).later)
    (fun j hj => by
      rw [Array.getElem?_append_left (by simpa using (by have := hall.1; simp at this; omega))]
      simp) rfl (grown_size hzs hol hnl hge) hge hsz
  exact ⟨_, _, hr, l3, l1, (stp_drewN B S 1).trans l2, a0.new h0 _ _⟩
end
end Go.Ev
