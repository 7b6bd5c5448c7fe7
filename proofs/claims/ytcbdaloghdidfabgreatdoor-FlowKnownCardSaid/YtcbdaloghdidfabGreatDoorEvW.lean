/- PART OF A PROOF: an evaluator over the model (its own text), and that it is sound: what it reckons, the machine does. No condition. -/
import Derived.Test.YtcbdaloghdidfabGreatDoorEvA
import Derived.Deep.Upon
namespace Go.Ev
open Go.RowKit

/-- A growing row has moved to a new block: its cells from st' on. -/
def Wd.move (S : Wd) (b : Nat) (o : AO) (obj : Obj) : Wd := ⟨S.H.put b o, fun x => if x = b then (S.w.heap.size, 0) else S.μ x, S.w.alloc obj⟩
section move
variable {G B : Nat} {S : Wd} {b n st lo m st' : Nat} {t t' : Tr AV} {cs cs' : Array Value} {ty e : TypeId}
theorem move_g {o : AO} {obj : Obj} (x : Nat) (h : x ≠ b) : (S.move b o obj).H.g x = S.H.g x := by simp [Wd.move, SH.put, h]
theorem move_gb {o : AO} {obj : Obj} : (S.move b o obj).H.g b = some o := by simp [Wd.move, SH.put]
theorem move_μ {o : AO} {obj : Obj} (x : Nat) (h : x ≠ b) : (S.move b o obj).μ x = S.μ x := by simp [Wd.move, h]
theorem move_μb {o : AO} {obj : Obj} : (S.move b o obj).μ b = (S.w.heap.size, 0) := by simp [Wd.move]
theorem move_unm {o o' : AO} {obj : Obj} (hg : S.H.g b = some o') {k : Nat} (hk : k < S.w.heap.size) (h : Unm S k) : Unm (S.move b o obj) k := by
  intro x o'' hx
  by_cases e : x = b
  · subst e; rw [move_μb]; simp only; omega
  · rw [move_g x e] at hx; rw [move_μ x e]; exact h x _ hx
/-- A row that grew in place, or moved: no header sees it otherwise. -/
theorem move_ok (h : Rel G B S) (hG : G ≤ b) (hg : S.H.g b = some (.cells n t (.rub st lo))) (he : S.w.heap[(S.μ b).1]? = some (.cells cs ty (0, 0)))
    (hst : st ≤ st') (hst' : st' ≤ n) (hm : n < m) (hlo : lo ≤ m) (hs : m - st' ≤ cs'.size)
    (hold : ∀ i, st' ≤ i → i < n → cs'[i - st']? = cs[(S.μ b).2 + (i - st)]?)
    (hr : ∀ S', Later S S' → CellsRel S' t' cs' st' m 0) :
    Rel G B (S.move b (.cells m t' (.rub st' lo)) (.cells cs' e)) ∧ Stp B S (S.move b (.cells m t' (.rub st' lo)) (.cells cs' e)) := by
  have hlt := h.lt hg
  have hn : (S.move b (.cells m t' (.rub st' lo)) (.cells cs' e)).w.heap[S.w.heap.size]? = some (.cells cs' e) := heap_alloc_new _ _
  have hsame : ∀ k, k < S.w.heap.size → (S.move b (.cells m t' (.rub st' lo)) (.cells cs' e)).w.heap[k]? = S.w.heap[k]? := fun k hk => heap_alloc_lt _ _ hk
  have sp : Stp B S (S.move b (.cells m t' (.rub st' lo)) (.cells cs' e)) := {
    a := fun a c hA => by
      refine ⟨hA.lt, hA.base, hA.spot, fun x u k hk => ?_⟩
      by_cases eb : a.b = b
      · rw [eb, move_gb] at hk
        cases hk
        have hp := hA.place _ _ _ (by rw [eb]; exact hg)
        have hp1 := hp.1
        refine ⟨by omega, fun h1 h2 => .inr ?_⟩
        have hbo := hA.base
        rcases hp.2 (by omega) h2 with ⟨p1, p2⟩ | ho
        · rw [eb] at p1 p2
          refine ⟨by omega, ?_, by rw [p1]; simp only [Wd.move, World.size_alloc]; omega, fun i hi1 hi2 => ?_⟩
          · intro x o' hx
            by_cases ex : x = b
            · subst ex; rw [move_μb]; simp only; omega
            · rw [move_g x ex] at hx; rw [move_μ x ex, p1]
              exact fun e2 => ex (h.inj _ _ _ _ hx hg e2)
          · rw [eb, move_μb, cell_heap hn, p1, cell_same (hsame _ hlt), cell_heap he, p2, Nat.zero_add, hold i (by omega) (by omega)]
            congr 1
            omega
        · have hlo' := ho.lt
          refine ⟨by have := ho.tip; omega, move_unm hg ho.lt ho.unm, by simp only [Wd.move, World.size_alloc]; omega, fun i hi1 hi2 => ?_⟩
          have hti := ho.tip
          rw [eb, move_μb, cell_heap hn, Nat.zero_add, hold i (by omega) (by omega), cell_same (hsame _ hlo'), ho.same i hi1 hi2, eb, cell_heap he]
      · rw [move_g _ eb] at hk
        have hp := hA.place x u k hk
        cases k with
        | fixed ro => simpa only [Place, move_μ _ eb] using hp
        | rub s2 l2 =>
          refine ⟨hp.1, fun h1 h2 => ?_⟩
          rcases hp.2 h1 h2 with hp | ho
          · left; simpa only [move_μ _ eb] using hp
          · right
            have hlo' := ho.lt
            refine ⟨ho.tip, move_unm hg ho.lt ho.unm, by simp only [Wd.move, World.size_alloc]; omega, fun i hi1 hi2 => ?_⟩
            rw [move_μ _ eb, cell_same (hsame _ hlo'), cell_same (hsame _ (h.lt hk))]
            exact ho.same i hi1 hi2
    c := fun a len cap opn c cap' hA hC => by
      refine ⟨hC.le, hC.exact, hC.ge, fun h0 x u s l hk h1 h2 h3 cs2 ty2 fr2 he2 => ?_⟩
      by_cases eb : a.b = b
      · rw [eb, move_gb] at hk
        cases hk
        have hp : Place S a c n (.rub st lo) := hA.place _ _ _ (by rw [eb]; exact hg)
        have := hp.1
        omega
      · rw [move_g _ eb] at hk
        rw [move_μ _ eb, hsame _ (h.lt hk)] at he2
        exact hC.fits h0 _ _ _ _ hk h1 h2 h3 _ _ _ he2
    m := fun r r' hr => ⟨hr.lt, fun o hk hi => by
      by_cases eb : r = b
      · subst eb; rw [move_gb] at hk; cases hk; cases hi
      · rw [move_g _ eb] at hk; rw [move_μ _ eb]; exact hr.at_ o hk hi⟩
    f := fun f f' hF => by
      cases hF with
      | func f => exact .func f
      | yield l l' lt at_ =>
        refine .yield l l' lt fun x hk => ?_
        by_cases eb : l = b
        · subst eb; rw [move_gb] at hk; cases hk
        · rw [move_g _ eb] at hk; rw [move_μ _ eb]; exact at_ x hk
    frm := fun k hk hu => ⟨hsame k hk, move_unm hg hk hu⟩
    below := (Below.refl _ _).alloc h.base _
    nx := fun _ h => h
    dom := fun x _ hx => by
      by_cases eb : x = b
      · subst eb; rw [hg] at hx; cases hx
      · rw [move_g _ eb]; exact hx }
  refine ⟨⟨h.gb, by have := h.base; simp only [Wd.move, World.size_alloc]; omega, h.gnx, fun x o' hx hk => ?_, fun x o' hk => ?_, fun x y o1 o2 h1 h2 hxy => ?_, fun x o' hk => ?_⟩, sp⟩
  · rw [move_g x (by omega)] at hk; rw [move_μ x (by omega)]; exact h.glob x o' hx hk
  · by_cases eb : x = b
    · subst eb; exact h.dom x _ hg
    · rw [move_g x eb] at hk; exact h.dom x o' hk
  · by_cases e1 : x = b <;> by_cases e2 : y = b
    · rw [e1, e2]
    · subst e1
      rw [move_g y e2] at h2
      rw [move_μb, move_μ y e2] at hxy
      have := h.lt h2
      simp only at hxy
      omega
    · subst e2
      rw [move_g x e1] at h1
      rw [move_μb, move_μ x e1] at hxy
      have := h.lt h1
      simp only at hxy
      omega
    · rw [move_g x e1] at h1
      rw [move_g y e2] at h2
      rw [move_μ x e1, move_μ y e2] at hxy
      exact h.inj _ _ _ _ h1 h2 hxy
  · by_cases eb : x = b
    · subst eb
      rw [move_gb] at hk
      cases hk
      exact ⟨cs', e, (0, 0), by rw [move_μb]; exact hn, hlo, by omega, by rw [move_μb]; simpa using hs, by rw [move_μb]; exact hr _ sp.later, by rw [move_μb]; exact h.base, rfl⟩
    · rw [move_g x eb] at hk
      exact (h.obj x o' hk).keep sp.later (move_μ x eb) (hsame _ (h.lt hk))
end move
theorem At.move {E : Nat → Option AO} {R : Nat → Prop} {H : AHeap} {S : Wd} {b : Nat} {o o' : AO} {obj : Obj} (h : At E R H S) (hb : H.t.get b = some o') : At E R (putH H b o) (S.move b o obj) where
  g := fun x => by
    simp only [putH, Tr.get_set]
    by_cases e : x = b
    · subst e; simp [move_gb]
    · rw [if_neg e, move_g x e]; exact h.g x
  sep := fun x o'' hx => by
    simp only [putH, Tr.get_set]
    rw [if_neg (fun e => by subst e; rw [h.sep _ _ hx] at hb; cases hb)]
    exact h.sep x o'' hx
  al := h.al
  r := h.r

/-- A growing row grows in place. -/
def Wd.grow (S : Wd) (b : Nat) (o : AO) (cs : Array Value) (s0 : Nat) : Wd := ⟨S.H.put b o, fun x => if x = b then ((S.μ b).1, s0) else S.μ x, S.w.setRow (S.μ b).1 cs⟩
theorem turn_grow {S : Wd} {b : Nat} {o : AO} {cs : Array Value} {s0 : Nat} : Turn S (S.grow b o cs s0) b where
  g := fun x hx => by simp [Wd.grow, SH.put, hx]
  nx := rfl
  μ := fun _ hx => by simp [Wd.grow, hx]
  μb := by simp [Wd.grow]
  heap := fun k hk => setRow_other _ _ _ _ hk
  size := setRow_size _ _ _
  os := rfl
  tape := rfl
  output := rfl
section grow
variable {G B : Nat} {S : Wd} {b n st lo m st' : Nat} {t t' : Tr AV} {cs cs' : Array Value} {ty : TypeId}
theorem grow_g {o : AO} {s0 : Nat} : (S.grow b o cs s0).H.g b = some o := by simp [Wd.grow, SH.put]
theorem grow_μ {o : AO} {s0 : Nat} : (S.grow b o cs s0).μ b = ((S.μ b).1, s0) := by simp [Wd.grow]
theorem grow_ok (h : Rel G B S) (hG : G ≤ b) (hg : S.H.g b = some (.cells n t (.rub st lo))) (he : S.w.heap[(S.μ b).1]? = some (.cells cs ty (0, 0))) (hB : B ≤ (S.μ b).1)
    (hst : st ≤ st') (hst' : st' ≤ n) (hm : n < m) (hlo : lo ≤ m) (hs : (S.μ b).2 + (m - st) ≤ cs'.size)
    (hold : ∀ i, st' ≤ i → i < n → cs'[(S.μ b).2 + (i - st)]? = cs[(S.μ b).2 + (i - st)]?)
    (hr : ∀ S', Later S S' → CellsRel S' t' cs' st' m ((S.μ b).2 + (st' - st))) :
    Rel G B (S.grow b (.cells m t' (.rub st' lo)) cs' ((S.μ b).2 + (st' - st))) ∧ Stp B S (S.grow b (.cells m t' (.rub st' lo)) cs' ((S.μ b).2 + (st' - st))) := by
  have T : Turn S (S.grow b (.cells m t' (.rub st' lo)) cs' ((S.μ b).2 + (st' - st))) b := turn_grow
  have hh : (S.grow b (.cells m t' (.rub st' lo)) cs' ((S.μ b).2 + (st' - st))).w.heap[(S.μ b).1]? = some (.cells cs' ty (0, 0)) := setRow_heap _ _ _ _ _ _ he
  have sp : Stp B S (S.grow b (.cells m t' (.rub st' lo)) cs' ((S.μ b).2 + (st' - st))) := by
    refine stp_turn h T hg hB ?_ ?_ ?_ ?_
    · rintro a c rfl hA
      refine ⟨hA.lt, hA.base, hA.spot, fun x u k hk => ?_⟩
      rw [grow_g] at hk
      cases hk
      have hp := hA.place _ _ _ hg
      have hp1 := hp.1
      have hbo := hA.base
      refine ⟨by omega, fun h1 h2 => ?_⟩
      rcases hp.2 (by omega) h2 with ⟨p1, p2⟩ | ho
      · left; rw [grow_μ]; exact ⟨p1, by simp only; omega⟩
      · right
        have hti := ho.tip
        refine ⟨by omega, T.unm hg ho.unm, by rw [T.size]; exact ho.lt, fun i hi1 hi2 => ?_⟩
        rw [grow_μ, cell_heap hh, cell_same (T.heap _ (Ne.symm (ho.unm _ _ hg))), ho.same i hi1 hi2, cell_heap he, ← hold i (by omega) (by omega)]
        congr 1
        omega
    · rintro a len cap opn c cap' rfl hA hC
      refine ⟨hC.le, hC.exact, hC.ge, fun h0 x u s l hk h1 h2 h3 => ?_⟩
      rw [grow_g] at hk
      cases hk
      have hp : Place S a c n (.rub st lo) := hA.place _ _ _ hg
      have := hp.1
      omega
    · intro o hk hi; rw [grow_g] at hk; cases hk; cases hi
    · intro es hk; rw [grow_g] at hk; cases hk
  refine ⟨rel_turn h T hg sp.later (fun hb => absurd hb (by omega)) fun o' ho => ?_, sp⟩
  rw [grow_g] at ho
  cases ho
  exact ⟨cs', ty, (0, 0), by rw [grow_μ]; exact hh, hlo, by omega, by rw [grow_μ]; simp only; omega, by rw [grow_μ]; exact hr _ sp.later, by rw [grow_μ]; exact hB, rfl⟩
end grow
theorem Rel.own {G B : Nat} {S : Wd} (h : Rel G B S) {b : Nat} {o : AO} (hg : S.H.g b = some o) (hB : B ≤ (S.μ b).1) : G ≤ b := by
  rcases Nat.lt_or_ge b G with hlt | hge
  · have := h.glob b o hlt hg
    have := h.gb
    rw [‹S.μ b = _›] at hB
    simp only at hB
    omega
  · exact hge
end Go.Ev
