/- PART OF A PROOF: an evaluator over the model (its own text), and that it is sound: what it reckons, the machine does. No condition. -/
import Derived.Test.YtcbdaloghdidfabGreatDoorEvW2
namespace Go.Ev
open Go.RowKit
section
variable {P : Program} {B : Nat} {S : Wd} {E : Nat → Option AO} {R : Nat → Prop} {H H' : AHeap}

theorem appendOpen_run {t e ty : TypeId} {i : TypeInfo} {a : AA} {c : Addr} {len cap opn m cap' : Nat} {news : List Value} {src : Tr AV} {x : Value} {r : AV}
    (ht : P.underlying t = some (.slice e)) (hi : P.info? e = some i) (hzo : zOK i = true) (hsz : 1 ≤ i.size) (hby : i.bytes ≤ 100000) (h : Rel P.globals.size B S) (hH : At E R H S)
    (hs : Src P i.size t x m news S.w) (hv : Vals S src (m * i.size) news) (hA : ARel S a c) (hC : CRel S a len cap opn c cap') (hm : 1 ≤ m) (hn : len + m ≤ 1000000)
    (he : appendOpen H i.size a len cap opn m src = some (r, H')) :
    WRun P B E R S H' r (Builtin.append_ #[t, t] ty #[.slice (some c) len cap', x]) := by
  simp only [appendOpen, ob_eq] at he
  obtain ⟨o, hg, he⟩ := he
  cases o with
  | map es => cases he
  | loop l => cases he
  | dfr => cases he
  | shut => cases he
  | cells n tr kd =>
    cases kd with
    | fixed ro => cases he
    | rub st lo =>
      simp only [chk_eq, Bool.and_eq_true, ob_eq, Option.some.injEq, Prod.mk.injEq] at he
      obtain ⟨⟨⟨⟨⟨⟨h1, h2⟩, h3⟩, h4⟩, h5⟩, h6⟩, t', hc, rfl, rfl⟩ := he
      have h1 : a.tip = n := by simpa using h1
      have h2 : len = cap := by simpa using h2
      have h3 : st ≤ a.base := by simpa using h3
      have h4 : a.off + len * i.size = n := by simpa using h4
      have h5 : opn = i.size := by simpa using h5
      have h6 : lo ≤ n := by simpa using h6
      have hg' := hH.get hg
      have hbo := hA.base
      have hp : Place S a c n (.rub st lo) := hA.place _ _ _ hg'
      obtain ⟨cs, tyc, fr, hh, _, hst, hs0, hr, hB, rfl⟩ := h.obj _ _ hg'
      obtain ⟨p1, p2⟩ : c.block = (S.μ a.b).1 ∧ c.off = (S.μ a.b).2 + (a.off - st) := by
        rcases hp.2 h3 (by omega) with hp | ho
        · exact hp
        · exact absurd ho.tip (by omega)
      have hG := h.own hg' hB
      have hms : m ≤ m * i.size := Nat.le_mul_of_pos_right m hsz
      have hmul : (len + m) * i.size = len * i.size + m * i.size := Nat.add_mul _ _ _
      have hfit := hC.fits (by omega) _ _ _ _ hg' h3 (by omega) h1 _ _ _ hh
      rw [h5] at hfit
      have hnl := hv.1
      by_cases hroom : len + m ≤ cap'
      · -- in place
        have hcap : (len + m) * i.size ≤ cap' * i.size := Nat.mul_le_mul_right _ hroom
        have hroom' : (S.μ a.b).2 + (n + m * i.size - st) ≤ cs.size := by omega
        have hst1 := run_storeCells_at P (S.μ a.b).1 ((S.μ a.b).2 + (n - st)) tyc news 0 cs S.w hh (by omega) hv.one
        simp only [Nat.add_zero] at hst1
        have hadd : c.add (len * i.size) = ⟨(S.μ a.b).1, (S.μ a.b).2 + (n - st), none⟩ := by
          rw [addr_eq hA.spot, p1, p2]; congr 1; omega
        have hrun := app_room (ty := ty) (w' := S.w.setRow (S.μ a.b).1 (cs.toList.take ((S.μ a.b).2 + (n - st)) ++ news ++ cs.toList.drop ((S.μ a.b).2 + (n - st) + news.length)).toArray) (c := c) ht hi hs hroom (by rw [hadd]; exact hst1)
        obtain ⟨g1, g2⟩ := grow_ok (m := n + m * i.size) (t' := t') (st' := a.off) (cs' := (cs.toList.take ((S.μ a.b).2 + (n - st)) ++ news ++ cs.toList.drop ((S.μ a.b).2 + (n - st) + news.length)).toArray)
          h hG hg' hh hB (by omega) (by omega) (by omega) (by omega) (by rw [size_mid _ _ _ (by simp; omega)]; simpa using hroom')
          (fun j hj1 hj2 => by
            rw [List.getElem?_toArray, get_mid _ _ _ _ (by simp; omega), if_neg (by omega), Array.getElem?_toList])
          (fun S' L j hj1 hj2 => by
            obtain ⟨c1, c2⟩ := cpTr_get hc
            rw [List.getElem?_toArray, get_mid _ _ _ _ (by simp; omega), c2 j]
            by_cases hj : j < n
            · obtain ⟨x, v, q1, q2, q3, q4⟩ := hr j (by omega) hj
              refine ⟨x, v, by rw [if_neg (by omega)]; exact q1, q2, ?_, q4.later L⟩
              rw [if_neg (by omega), Array.getElem?_toList, ← q3]; congr 1; omega
            · obtain ⟨x, v, q1, q2, q3, q4⟩ := hv.2 (j - n) (by omega)
              refine ⟨x, v, by rw [if_pos (by omega)]; simpa using q1, q2, ?_, q4.later L⟩
              rw [if_pos (by omega), ← q3]; congr 1; omega)
        have hat : At E R (putH H a.b (.cells (n + m * i.size) t' (.rub a.off lo))) (S.grow a.b (.cells (n + m * i.size) t' (.rub a.off lo)) (cs.toList.take ((S.μ a.b).2 + (n - st)) ++ news ++ cs.toList.drop ((S.μ a.b).2 + (n - st) + news.length)).toArray ((S.μ a.b).2 + (a.off - st))) :=
          hH.turn hg turn_grow grow_g
        refine ⟨_, _, hrun, ?_, g1, g2, hat⟩
        refine .slice _ _ _ _ _ _ ⟨hA.lt, Nat.le_refl _, hA.spot, fun n' t'' k' hk => ?_⟩ ⟨Nat.le_refl _, fun e => absurd e (by omega), hroom, fun _ n' t'' s l hk _ _ _ cs2 ty2 fr2 he2 => ?_⟩
        · have hk : (S.grow a.b (.cells (n + m * i.size) t' (.rub a.off lo)) _ _).H.g a.b = some (.cells n' t'' k') := hk
          rw [grow_g] at hk
          cases hk
          refine ⟨Nat.le_refl _, fun _ _ => .inl ?_⟩
          show c.block = ((S.grow a.b _ _ _).μ a.b).1 ∧ c.off = ((S.grow a.b _ _ _).μ a.b).2 + (a.off - a.off)
          rw [grow_μ]
          exact ⟨p1, by simp only; omega⟩
        · have he2 : (S.grow a.b (.cells (n + m * i.size) t' (.rub a.off lo)) (cs.toList.take ((S.μ a.b).2 + (n - st)) ++ news ++ cs.toList.drop ((S.μ a.b).2 + (n - st) + news.length)).toArray ((S.μ a.b).2 + (a.off - st))).w.heap[((S.grow a.b (.cells (n + m * i.size) t' (.rub a.off lo)) (cs.toList.take ((S.μ a.b).2 + (n - st)) ++ news ++ cs.toList.drop ((S.μ a.b).2 + (n - st) + news.length)).toArray ((S.μ a.b).2 + (a.off - st))).μ a.b).1]? = some (.cells cs2 ty2 fr2) := he2
          rw [grow_μ] at he2
          have hh2 := setRow_heap S.w (S.μ a.b).1 cs (cs.toList.take ((S.μ a.b).2 + (n - st)) ++ news ++ cs.toList.drop ((S.μ a.b).2 + (n - st) + news.length)).toArray _ _ hh
          have he2 : (S.w.setRow (S.μ a.b).1 (cs.toList.take ((S.μ a.b).2 + (n - st)) ++ news ++ cs.toList.drop ((S.μ a.b).2 + (n - st) + news.length)).toArray).heap[(S.μ a.b).1]? = some (.cells cs2 ty2 fr2) := he2
          rw [hh2] at he2
          cases he2
          rw [size_mid _ _ _ (by simp; omega)]
          simpa using hfit
      · -- moved
        obtain ⟨z, hz, hzs⟩ := zOK_eq hzo
        have hg1 : cap' < len + m := by omega
        let olds := (List.range (len * i.size)).map fun j => (S.w.cell? ⟨c.block, c.off + j, none⟩).getD undef
        have hol : olds.length = len * i.size := by simp [olds]
        have hcell : ∀ j, j < len * i.size → ∃ x v, tr.get (a.off + j) = some x ∧ cellOK x = true ∧ S.w.cell? ⟨c.block, c.off + j, none⟩ = some v ∧ cs[(S.μ a.b).2 + (a.off + j - st)]? = some v ∧ VRel S x v := by
          intro j hj
          obtain ⟨x, v, q1, q2, q3, q4⟩ := hr (a.off + j) (by omega) (by omega)
          refine ⟨x, v, q1, q2, ?_, q3, q4⟩
          rw [p1, p2, cell_heap hh, ← q3]; congr 1; omega
        have holds : ∀ j v, olds[j]? = some v → S.w.cell? (c.add j) = some v := by
          intro j v hj
          have hk : j < len * i.size := by
            rcases Nat.lt_or_ge j (len * i.size) with h | h
            · exact h
            · simp [olds, h] at hj
          obtain ⟨x, u, q1, q2, q3, q4, q5⟩ := hcell j hk
          simp [olds, hk, q3] at hj
          rw [addr_eq hA.spot, q3, hj]
        have hoc : ∀ j, j < len * i.size → olds[j]? = cs[(S.μ a.b).2 + (a.off + j - st)]? := by
          intro j hj
          obtain ⟨x, u, q1, q2, q3, q4, q5⟩ := hcell j hj
          rw [q4]
          simp [olds, hj, q3]
        have hr1 := run_append_grow_src (P := P) S.w t t ty e i z ht hi hz (some c) len cap' olds (run_firstCells_some S.w.drew i.size len c len cap' olds hol holds) x m news hs hg1 (by omega) (fit_of hg1 hn hby)
        have hge := grownCap_ge S.w (len + m) cap' e
        have h0 := rel_drewN h 1
        have a0 := hH.drewN 1
        have hsize := grown_size (olds := olds) (news := news) hzs hol hv.1 hge
        have hcs' : ∀ j, j < len * i.size + m * i.size → ((olds ++ news).toArray ++ Builtin.zeroCells z.cells (grownCap S.w (len + m) cap' e - (len + m)))[j]? = (olds ++ news)[j]? := by
          intro j hj
          rw [Array.getElem?_append_left (by simp; omega)]
          simp
        have hcapm : (len + m) * i.size ≤ grownCap S.w (len + m) cap' e * i.size := Nat.mul_le_mul_right _ hge
        obtain ⟨g1, g2⟩ := move_ok (e := e) (m := n + m * i.size) (t' := t') (st' := a.off) (cs' := (olds ++ news).toArray ++ Builtin.zeroCells z.cells (grownCap S.w (len + m) cap' e - (len + m)))
          h0 hG hg' hh (by omega) (by omega) (by omega) (by omega) (by rw [hsize]; omega)
          (fun j hj1 hj2 => by
            rw [hcs' _ (by omega), List.getElem?_append_left (by omega), hoc _ (by omega)]
            show cs[(S.μ a.b).2 + (a.off + (j - a.off) - st)]? = cs[(S.μ a.b).2 + (j - st)]?
            congr 1; omega)
          (fun S' L j hj1 hj2 => by
            obtain ⟨c1, c2⟩ := cpTr_get hc
            have L0 := (stp_drewN B S 1).later
            rw [c2 j, hcs' _ (by omega)]
            by_cases hj : j < n
            · obtain ⟨x, v, q1, q2, q3, q4⟩ := hr j (by omega) hj
              refine ⟨x, v, by rw [if_neg (by omega)]; exact q1, q2, ?_, (q4.later L0).later L⟩
              rw [List.getElem?_append_left (by omega), hoc _ (by omega), ← q3]; congr 1; omega
            · obtain ⟨x, v, q1, q2, q3, q4⟩ := hv.2 (j - n) (by omega)
              refine ⟨x, v, by rw [if_pos (by omega)]; simpa using q1, q2, ?_, (q4.later L0).later L⟩
              rw [List.getElem?_append_right (by omega), ← q3]; congr 1; omega)
        refine ⟨_, _, hr1, ?_, g1, (stp_drewN B S 1).trans g2, a0.move hg⟩
        refine .slice _ _ _ _ _ _ ⟨hA.lt, Nat.le_refl _, rfl, fun n' t'' k' hk => ?_⟩ ⟨Nat.le_refl _, fun e => absurd e (by omega), hge, fun _ n' t'' s l hk _ _ _ cs2 ty2 fr2 he2 => ?_⟩
        · have hk : ((S.drewN 1).move a.b _ _).H.g a.b = some (.cells n' t'' k') := hk
          rw [move_gb] at hk
          cases hk
          refine ⟨Nat.le_refl _, fun _ _ => .inl ?_⟩
          show S.w.heap.size = (((S.drewN 1).move a.b _ _).μ a.b).1 ∧ 0 = (((S.drewN 1).move a.b _ _).μ a.b).2 + (a.off - a.off)
          rw [move_μb]
          exact ⟨rfl, by simp⟩
        · have he2 : (S.w.drew.alloc (.cells ((olds ++ news).toArray ++ Builtin.zeroCells z.cells (grownCap S.w (len + m) cap' e - (len + m))) e)).heap[((Wd.move (S.drewN 1) a.b (.cells (n + m * i.size) t' (.rub a.off lo)) (.cells ((olds ++ news).toArray ++ Builtin.zeroCells z.cells (grownCap S.w (len + m) cap' e - (len + m))) e)).μ a.b).1]? = some (.cells cs2 ty2 fr2) := he2
          rw [move_μb] at he2
          have hh2 := heap_alloc_new S.w.drew (.cells ((olds ++ news).toArray ++ Builtin.zeroCells z.cells (grownCap S.w (len + m) cap' e - (len + m))) e)
          have he2 : (S.w.drew.alloc (.cells ((olds ++ news).toArray ++ Builtin.zeroCells z.cells (grownCap S.w (len + m) cap' e - (len + m))) e)).heap[S.w.drew.heap.size]? = some (.cells cs2 ty2 fr2) := he2
          rw [hh2] at he2
          cases he2
          rw [hsize]
          simp

theorem append_run {t ty : TypeId} {s x r : AV} {vs vx : Value} (h : Rel P.globals.size B S) (hH : At E R H S) (hs : VRel S s vs) (hx : VRel S x vx) (he : appendA P H t s x = some (r, H')) :
    WRun P B E R S H' r (Builtin.append_ #[t, t] ty #[vs, vx]) := by
  simp only [appendA, ob_eq] at he
  obtain ⟨d, ht, he⟩ := he
  split at he
  · rename_i e
    simp only [ob_eq, chk_eq, Bool.and_eq_true] at he
    obtain ⟨i, hi, ⟨⟨h1, h2⟩, h3⟩, ⟨m, src⟩, hsrc, he⟩ := he
    have h1 : 1 ≤ i.size := by simpa using h1
    have h2 : i.bytes ≤ 100000 := by simpa using h2
    obtain ⟨news, hS, hV⟩ := src_run ht h hH hx hsrc
    simp only at he
    split at he
    · -- nil
      cases hs
      simp only [cond_eq] at he
      split at he
      · rename_i hm
        have hm : m = 0 := by simpa using hm
        subst hm
        cases he
        have hn : news = [] := by have := hV.1; simp at this; exact this
        subst hn
        exact ⟨_, S, run_append_nothing S.w t t ty e i ht hi none 0 0 (Nat.le_refl _) vx hS, .nilslice, h, Stp.refl _ _, hH⟩
      · rename_i hm
        have hm : m ≠ 0 := by simpa using hm
        simp only [chk_eq, Option.some.injEq, Prod.mk.injEq] at he
        obtain ⟨h4, rfl, rfl⟩ := he
        have h4 : m ≤ 1000000 := by simpa using h4
        have := appendNew_run (ty := ty) (base := none) (len := 0) (cap' := 0) (olds := []) (news := news) (t' := src) (m := m) ht hi h3 h1 h2 h hH hS (by simpa using hV) (by simp)
          (fun w' _ => by rw [run_firstCells_none]) (by omega) (by omega)
        simp only [Nat.zero_add] at this
        exact this
    · rename_i a len cap opn
      cases hs
      rename_i c cap' hA hC
      have hle := hC.le
      have hge := hC.ge
      simp only [cond_eq] at he
      split at he
      · rename_i hr
        have hr : len + m ≤ cap := by simpa using hr
        split at he
        · rename_i hm
          have hm : m = 0 := by simpa using hm
          subst hm
          cases he
          have hn : news = [] := by have := hV.1; simp at this; exact this
          subst hn
          exact ⟨_, S, run_append_nothing S.w t t ty e i ht hi (some c) len cap' (by omega) vx hS, .slice _ _ _ _ _ _ hA hC, h, Stp.refl _ _, hH⟩
        · simp only [ob_eq, Option.some.injEq, Prod.mk.injEq] at he
          obtain ⟨H1, hw, rfl, rfl⟩ := he
          obtain ⟨S', r1, r2, r3, r4⟩ := wrCells_rel (P := P) h (hA.move (len * i.size)) hH hw hV
          have hrun := app_room (ty := ty) ht hi hS (by omega : len + m ≤ cap') r1
          exact ⟨_, S', hrun, .slice _ _ _ _ _ _ (r4.a _ _ hA) (by
            have := r4.c _ _ _ _ _ _ hA hC
            exact ⟨hr, this.exact, this.ge, this.fits⟩), r3, r4, r2⟩
      · rename_i hr
        have hr : ¬ len + m ≤ cap := by simpa using hr
        simp only [chk_eq] at he
        obtain ⟨h4, he⟩ := he
        have h4 : len + m ≤ 1000000 := by simpa using h4
        split at he
        · rename_i ho
          have ho : opn = 0 := by simpa using ho
          simp only [appendNew, ob_eq, Option.some.injEq, Prod.mk.injEq] at he
          obtain ⟨old, hold, t', hc, rfl, rfl⟩ := he
          obtain ⟨olds, hseg⟩ := rdCells_rel h hA hH hold
          have hex := hC.exact ho
          have hall := vals_append hseg.vals hV hc
          rw [← Nat.add_mul] at hall
          exact appendNew_run ht hi h3 h1 h2 h hH hS hall hseg.1 (fun w' hw' => run_firstCells_some w' i.size len c len cap' olds hseg.1 (fun j v hj => by
            have := hseg.2.1 j v hj
            rw [← this]
            simp [World.cell?, hw'])) (by omega) h4
        · exact appendOpen_run ht hi h3 h1 h2 h hH hS hV hA hC (by omega) h4 he
    · cases he
  · cases he
end
end Go.Ev
