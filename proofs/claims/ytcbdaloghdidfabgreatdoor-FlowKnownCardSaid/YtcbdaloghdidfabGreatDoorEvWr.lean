/- PART OF A PROOF: an evaluator over the model (its own text), and that it is sound: what it reckons, the machine does. No condition. -/
import Derived.Test.YtcbdaloghdidfabGreatDoorEvRun
namespace Go.Ev
open Go.RowKit

/-- k values that a trie's first k cells read as. -/
def Vals (S : Wd) (tr : Tr AV) (k : Nat) (vs : List Value) : Prop :=
  vs.length = k ∧ ∀ i, i < k → ∃ x v, tr.get i = some x ∧ cellOK x = true ∧ vs[i]? = some v ∧ VRel S x v
theorem Seg.vals {S : Wd} {tr : Tr AV} {k : Nat} {c : Addr} {cs : List Value} (h : Seg S tr k c cs) : Vals S tr k cs := ⟨h.1, h.2.2⟩
theorem Vals.later {S S' : Wd} (L : Later S S') {tr : Tr AV} {k : Nat} {vs : List Value} (h : Vals S tr k vs) : Vals S' tr k vs :=
  ⟨h.1, fun i hi => let ⟨x, v, a, b, c, d⟩ := h.2 i hi; ⟨x, v, a, b, c, d.later L⟩⟩
theorem one_of_rel {S : Wd} {x : AV} {v : Value} (h : VRel S x v) (hc : cellOK x = true) : v.oneCell' = true := by
  cases h <;> first | rfl | cases hc
theorem Vals.one {S : Wd} {tr : Tr AV} {k : Nat} {vs : List Value} (h : Vals S tr k vs) : ∀ v ∈ vs, v.oneCell' = true := by
  intro v hv
  obtain ⟨i, hi, rfl⟩ := List.getElem_of_mem hv
  obtain ⟨x, u, h1, h2, h3, h4⟩ := h.2 i (by rw [← h.1]; exact hi)
  rw [List.getElem?_eq_getElem hi] at h3
  cases h3
  exact one_of_rel h4 h2
theorem cells_of_rel {S : Wd} {x : AV} {v : Value} (h : VRel S x v) (ht : notTup x = true) : Vals S (trOf x) (cnt x) v.cells.toList := by
  cases h with
  | tup xs xs' h => cases ht
  | agg n t cs g hn hg h =>
    refine ⟨by simpa [Value.cells, cnt] using hn, fun i hi => ?_⟩
    have hi : i < n := hi
    obtain ⟨h1, h2⟩ := hg i hi
    refine ⟨g i, cs.getD i undef, h1, h2, ?_, h i hi⟩
    have : i < cs.length := by omega
    simp [Value.cells, List.getD, List.getElem?_eq_getElem this]
  | _ =>
    refine ⟨by simp [Value.cells, cnt], fun i hi => ?_⟩
    simp only [cnt] at hi
    obtain rfl : i = 0 := by omega
    refine ⟨_, _, rfl, rfl, by simp only [Value.cells]; rfl, ?_⟩
    first
      | exact .bool _ | exact .int _ _ | exact .str _ | exact .nilptr | exact .nilslice | exact .nilmap | exact .nilFunc | exact .nilIface
      | (constructor <;> assumption)

section write
variable {P : Program} {G B : Nat} {S : Wd} {a : AA} {c : Addr} {E : Nat → Option AO} {R : Nat → Prop}

theorem get_mid (l vs : List Value) (o i : Nat) (ho : o + vs.length ≤ l.length) :
    (l.take o ++ vs ++ l.drop (o + vs.length))[i]? = if o ≤ i ∧ i < o + vs.length then vs[i - o]? else l[i]? := by
  have hl : (l.take o).length = o := by simp; omega
  by_cases h1 : i < o
  · rw [if_neg (by omega), List.append_assoc, List.getElem?_append_left (by omega), List.getElem?_take, if_pos h1]
  · by_cases h2 : i < o + vs.length
    · rw [if_pos (by omega), List.getElem?_append_left (by simp; omega), List.getElem?_append_right (by omega), hl]
    · rw [if_neg (by omega), List.getElem?_append_right (by simp; omega), List.getElem?_drop]
      congr 1
      simp
      omega

/-- A stretch of a row's cells is written. -/
theorem cells_written {t t' src : Tr AV} {cs : Array Value} {vs : List Value} {k off st n s0 : Nat} {S' : Wd} (L : Later S S')
    (hc : cpTr src k 0 off t = some t') (hr : CellsRel S t cs st n s0) (hv : Vals S src k vs) (h1 : st ≤ off) (h2 : off + k ≤ n) (hs : s0 + (n - st) ≤ cs.size) :
    CellsRel S' t' (cs.toList.take (s0 + (off - st)) ++ vs ++ cs.toList.drop (s0 + (off - st) + vs.length)).toArray st n s0 := by
  intro i hi1 hi2
  obtain ⟨c1, c2⟩ := cpTr_get hc
  have hl := hv.1
  have hg : (cs.toList.take (s0 + (off - st)) ++ vs ++ cs.toList.drop (s0 + (off - st) + vs.length)).toArray[s0 + (i - st)]? =
      if s0 + (off - st) ≤ s0 + (i - st) ∧ s0 + (i - st) < s0 + (off - st) + vs.length then vs[s0 + (i - st) - (s0 + (off - st))]? else cs.toList[s0 + (i - st)]? := by
    rw [List.getElem?_toArray]
    exact get_mid _ _ _ _ (by simp; omega)
  rw [hg, c2 i]
  by_cases h : off ≤ i ∧ i < off + k
  · rw [if_pos h, if_pos (by omega)]
    obtain ⟨x, v, g1, g2, g3, g4⟩ := hv.2 (i - off) (by omega)
    refine ⟨x, v, by rw [← g1]; congr 1; omega, g2, by rw [← g3]; congr 1; omega, g4.later L⟩
  · rw [if_neg h, if_neg (by omega)]
    obtain ⟨x, v, g1, g2, g3, g4⟩ := hr i hi1 hi2
    exact ⟨x, v, g1, g2, by simpa using g3, g4.later L⟩

def Wd.row (S : Wd) (b : Nat) (o : AO) (cs : Array Value) : Wd := ⟨S.H.put b o, S.μ, S.w.setRow (S.μ b).1 cs⟩
theorem turn_row {b : Nat} {o : AO} {cs : Array Value} : Turn S (S.row b o cs) b where
  g := fun x hx => by simp [Wd.row, SH.put, hx]
  nx := rfl
  μ := fun _ _ => rfl
  μb := rfl
  heap := fun k hk => setRow_other _ _ _ _ hk
  size := setRow_size _ _ _
  os := rfl
  tape := rfl
  output := rfl
theorem row_g {b : Nat} {o : AO} {cs : Array Value} : (S.row b o cs).H.g b = some o := by simp [Wd.row, SH.put]

/-- A fixed row of the call's own is written. -/
theorem fixed_row (h : Rel G B S) {b n : Nat} {t t' : Tr AV} (hg : S.H.g b = some (.cells n t (.fixed false))) {cs cs' : Array Value} {ty : TypeId}
    (he : S.w.heap[(S.μ b).1]? = some (.cells cs ty (0, 0))) (hB : B ≤ (S.μ b).1) (h0 : (S.μ b).2 = 0) (hs : cs'.size = n)
    (hr : ∀ S', Later S S' → CellsRel S' t' cs' 0 n 0) :
    Rel G B (S.row b (.cells n t' (.fixed false)) cs') ∧ Stp B S (S.row b (.cells n t' (.fixed false)) cs') := by
  have T : Turn S (S.row b (.cells n t' (.fixed false)) cs') b := turn_row
  have st : Stp B S (S.row b (.cells n t' (.fixed false)) cs') := by
    refine stp_turn h T hg hB ?_ ?_ ?_ ?_
    · rintro a c rfl hA
      refine ⟨hA.lt, hA.base, hA.spot, fun m u k hk => ?_⟩
      rw [row_g] at hk
      cases hk
      exact hA.place _ _ _ hg
    · rintro a len cap opn c cap' rfl hA hC
      refine ⟨hC.le, hC.exact, hC.ge, fun _ m u s l hk => ?_⟩
      rw [row_g] at hk
      cases hk
    · intro o hk hi; rw [row_g] at hk; cases hk; cases hi
    · intro es hk; rw [row_g] at hk; cases hk
  refine ⟨rel_turn h T hg st.later (fun hb => h.glob b _ hb hg) fun o' ho => ?_, st⟩
  rw [row_g] at ho
  cases ho
  exact ⟨cs', ty, (0, 0), setRow_heap _ _ _ _ _ _ he, h0, hs, hr _ st.later, fun _ => ⟨hB, rfl⟩⟩

/-- A growing row is written: older headers see it no more. -/
theorem rub_row (h : Rel G B S) {b n st lo : Nat} {t t' : Tr AV} (hg : S.H.g b = some (.cells n t (.rub st lo))) {cs cs' : Array Value} {ty : TypeId}
    (he : S.w.heap[(S.μ b).1]? = some (.cells cs ty (0, 0))) (hB : B ≤ (S.μ b).1) (hlo : lo ≤ n) (hst : st ≤ n) (hs : (S.μ b).2 + (n - st) ≤ cs.size) (hs' : cs'.size = cs.size)
    (hr : ∀ S', Later S S' → CellsRel S' t' cs' st n (S.μ b).2) :
    Rel G B (S.row b (.cells n t' (.rub st n)) cs') ∧ Stp B S (S.row b (.cells n t' (.rub st n)) cs') := by
  have T : Turn S (S.row b (.cells n t' (.rub st n)) cs') b := turn_row
  have hh : (S.row b (.cells n t' (.rub st n)) cs').w.heap[(S.μ b).1]? = some (.cells cs' ty (0, 0)) := setRow_heap _ _ _ _ _ _ he
  have sp : Stp B S (S.row b (.cells n t' (.rub st n)) cs') := by
    refine stp_turn h T hg hB ?_ ?_ ?_ ?_
    · rintro a c rfl hA
      refine ⟨hA.lt, hA.base, hA.spot, fun m u k hk => ?_⟩
      rw [row_g] at hk
      cases hk
      have hp := hA.place _ _ _ hg
      refine ⟨hp.1, fun h1 h2 => ?_⟩
      rcases hp.2 h1 (by omega) with hp | ho
      · exact .inl hp
      · exact absurd ho.tip (by omega)
    · rintro a len cap opn c cap' rfl hA hC
      refine ⟨hC.le, hC.exact, hC.ge, fun h0 m u s l hk h1 h2 h3 cs2 ty2 fr2 he2 => ?_⟩
      rw [row_g] at hk
      cases hk
      have := hC.fits h0 _ _ _ _ hg h1 (by omega) h3 _ _ _ he
      rw [show (S.row a.b (.cells n t' (.rub st n)) cs').μ a.b = S.μ a.b from rfl, hh] at he2
      cases he2
      omega
    · intro o hk hi; rw [row_g] at hk; cases hk; cases hi
    · intro es hk; rw [row_g] at hk; cases hk
  refine ⟨rel_turn h T hg sp.later (fun hb => h.glob b _ hb hg) fun o' ho => ?_, sp⟩
  rw [row_g] at ho
  cases ho
  exact ⟨cs', ty, (0, 0), hh, Nat.le_refl _, hst, by rw [hs']; exact hs, hr _ sp.later, hB, rfl⟩

theorem size_mid (l vs : List Value) (o : Nat) (ho : o + vs.length ≤ l.length) : (l.take o ++ vs ++ l.drop (o + vs.length)).toArray.size = l.length := by
  simp; omega

/-- Writing k cells. -/
theorem wrCells_rel {H H' : AHeap} {k : Nat} {src : Tr AV} {vs : List Value} (h : Rel G B S) (hA : ARel S a c) (hH : At E R H S) (hw : wrCells H a k src = some H')
    (hv : Vals S src k vs) : ∃ S', (storeCells c vs).run P S.w = .ok () S'.w ∧ At E R H' S' ∧ Rel G B S' ∧ Stp B S S' := by
  simp only [wrCells, ob_eq] at hw
  obtain ⟨o, hg, hw⟩ := hw
  have hg' : S.H.g a.b = some o := hH.get hg
  cases o with
  | cells n t kd =>
    cases kd with
    | fixed ro =>
      cases ro with
      | true => cases hw
      | false =>
        obtain ⟨hb, ho⟩ := hA.place _ _ _ hg'
        obtain ⟨cs, ty, fr, he, hz, hs, hr, hB0⟩ := h.obj _ _ hg'
        obtain ⟨hB, rfl⟩ := hB0 rfl
        simp only [cond_eq] at hw
        have hrun := fun (hfit : a.off + vs.length ≤ cs.size) => run_storeCells_at P (S.μ a.b).1 a.off ty vs 0 cs S.w he (by simpa using hfit) hv.one
        rw [addr_eq0 hA.spot, hb, ho]
        split at hw
        · rename_i hb2
          simp only [Bool.and_eq_true] at hb2
          have h1 : a.off = 0 := by simpa using hb2.1
          have h2 : k = n := by simpa using hb2.2
          cases hw
          have hl : vs.length = n := by rw [hv.1, h2]
          obtain ⟨r1, r2⟩ := fixed_row (cs' := vs.toArray) (t' := src) h hg' he hB hz (by simpa using hl) (fun S' L i hi1 hi2 => by
            obtain ⟨x, v, g1, g2, g3, g4⟩ := hv.2 i (by omega)
            exact ⟨x, v, g1, g2, by simpa using g3, g4.later L⟩)
          refine ⟨_, ?_, ?_, r1, r2⟩
          · rw [hrun (by omega), h1]
            simp only [Wd.row]
            congr 2
            simp [hl, ← hs]
          · exact hH.turn hg turn_row row_g
        · simp only [chk_eq, ob_eq, Option.some.injEq] at hw
          obtain ⟨h1, t', ht, rfl⟩ := hw
          have h1 : a.off + k ≤ n := by simpa using h1
          have hl := hv.1
          have hcw := fun S' (L : Later S S') => cells_written L ht hr hv (Nat.zero_le _) h1 (by omega)
          simp only [Nat.zero_add, Nat.sub_zero] at hcw
          obtain ⟨r1, r2⟩ := fixed_row (t' := t') h hg' he hB hz (by rw [size_mid _ _ _ (by simp; omega)]; simpa using hs) hcw
          refine ⟨_, ?_, ?_, r1, r2⟩
          · rw [hrun (by omega)]
            simp [Wd.row]
          · exact hH.turn hg turn_row row_g
    | rub st lo =>
      simp only [chk_eq, Bool.and_eq_true, ob_eq, Option.some.injEq] at hw
      obtain ⟨⟨⟨h1, h2⟩, h3⟩, t', ht, rfl⟩ := hw
      have h1 : st ≤ a.base := by simpa using h1
      have hbo := hA.base
      have h2 : a.off + k ≤ n := by simpa using h2
      have h3 : a.tip = n := by simpa using h3
      obtain ⟨cs, ty, fr, he, hlo, hst, hs, hr, hB, rfl⟩ := h.obj _ _ hg'
      have hl := hv.1
      obtain ⟨hb, ho⟩ : c.block = (S.μ a.b).1 ∧ c.off = (S.μ a.b).2 + (a.off - st) := by
        rcases (hA.place _ _ _ hg').2 h1 (by omega) with hp | ho
        · exact hp
        · exact absurd ho.tip (by omega)
      have hrun := run_storeCells_at P (S.μ a.b).1 ((S.μ a.b).2 + (a.off - st)) ty vs 0 cs S.w he (by omega) hv.one
      rw [addr_eq0 hA.spot, hb, ho]
      obtain ⟨r1, r2⟩ := rub_row (t' := t') h hg' he hB hlo hst hs (by rw [size_mid _ _ _ (by simp; omega)]; simp)
        (fun S' L => cells_written L ht hr hv (by omega) h2 hs)
      refine ⟨_, ?_, ?_, r1, r2⟩
      · rw [hrun]
        simp [Wd.row]
      · exact hH.turn hg turn_row row_g
  | map es => cases hw
  | loop l => cases hw
  | dfr => cases hw
  | shut => cases hw
theorem store_rel {H H' : AHeap} {t : TypeId} {x : AV} {v : Value} (h : Rel G B S) (hA : ARel S a c) (hH : At E R H S) (hw : store P H t a x = some H')
    (hv : VRel S x v) : ∃ S', (storeVar t c v).run P S.w = .ok () S'.w ∧ At E R H' S' ∧ Rel G B S' ∧ Stp B S S' := by
  simp only [store, ob_eq, chk_eq, Bool.and_eq_true] at hw
  obtain ⟨sz, hsz, ⟨h1, h2⟩, hw⟩ := hw
  have h2 : cnt x = sz := by simpa using h2
  have hvals := cells_of_rel hv h1
  rw [h2] at hvals
  obtain ⟨S', r1, r2⟩ := wrCells_rel (P := P) h hA hH hw hvals
  refine ⟨S', ?_, r2⟩
  have hl : v.cells.size = sz := by simpa using hvals.1
  simp [storeVar, size_run hsz, hl, r1]
end write
end Go.Ev
