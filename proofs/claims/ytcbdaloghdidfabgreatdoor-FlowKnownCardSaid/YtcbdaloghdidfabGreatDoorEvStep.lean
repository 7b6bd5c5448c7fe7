/- PART OF A PROOF: an evaluator over the model (its own text), and that it is sound: what it reckons, the machine does. No condition. -/
import Derived.Test.YtcbdaloghdidfabGreatDoorEvRel
namespace Go.Ev
open Go.RowKit

def Wd.new (S : Wd) (z : Nat) (o : AO) (obj : Obj) : Wd := ⟨S.H.newAt z o, fun b => if b = z then (S.w.heap.size, 0) else S.μ b, S.w.alloc obj⟩

theorem heap_alloc_lt (w : World) (obj : Obj) {k : Nat} (h : k < w.heap.size) : (w.alloc obj).heap[k]? = w.heap[k]? := Below.heap_alloc _ _ _ h
theorem heap_alloc_new (w : World) (obj : Obj) : (w.alloc obj).heap[w.heap.size]? = some obj := World.alloc_heap_new _ _
theorem cell_same {w w' : World} {k : Nat} (h : w'.heap[k]? = w.heap[k]?) (o : Nat) (s : Option Nat) : w'.cell? ⟨k, o, s⟩ = w.cell? ⟨k, o, s⟩ :=
  World.cell?_of_block (a := ⟨k, o, s⟩) h
theorem lt_of_heap {w : World} {k : Nat} {o : Obj} (h : w.heap[k]? = some o) : k < w.heap.size := (Array.getElem?_eq_some_iff.1 h).1

theorem ObjRel.heap {S : Wd} {B b : Nat} {o : AO} (h : ObjRel S B b o) : ∃ ob, S.w.heap[(S.μ b).1]? = some ob := by
  cases o with
  | cells n t k => obtain ⟨cs, ty, fr, e, _⟩ := h; exact ⟨_, e⟩
  | map es => obtain ⟨es', ck, e, _⟩ := h; exact ⟨_, e⟩
  | loop l => obtain ⟨r, e, _⟩ := h; exact ⟨_, e⟩
  | dfr => exact ⟨_, h.1⟩
  | shut => exact ⟨_, h.1⟩
theorem Rel.lt {G B : Nat} {S : Wd} (h : Rel G B S) {b : Nat} {o : AO} (hb : S.H.g b = some o) : (S.μ b).1 < S.w.heap.size :=
  let ⟨_, e⟩ := (h.obj b o hb).heap; lt_of_heap e

/-- What an object says stays, where its block and the values stay. -/
theorem ObjRel.keep {S S' : Wd} {B b : Nat} {o : AO} (h : ObjRel S B b o) (L : Later S S') (hμ : S'.μ b = S.μ b) (hh : S'.w.heap[(S.μ b).1]? = S.w.heap[(S.μ b).1]?) : ObjRel S' B b o := by
  cases o with
  | cells n t k =>
    obtain ⟨cs, ty, fr, e, hk⟩ := h
    refine ⟨cs, ty, fr, by rw [hμ, hh]; exact e, ?_⟩
    cases k with
    | fixed ro => obtain ⟨a, b, c, d⟩ := hk; exact ⟨by rw [hμ]; exact a, b, c.later L, by rw [hμ]; exact d⟩
    | rub st lo => obtain ⟨z, a, b, c, d, f⟩ := hk; exact ⟨z, a, by rw [hμ]; exact b, by rw [hμ]; exact c.later L, by rw [hμ]; exact d, f⟩
  | map es => obtain ⟨es', ck, e, f, g⟩ := h; exact ⟨es', ck, by rw [hμ, hh]; exact e, f.later L, by rw [hμ]; exact g⟩
  | loop l => obtain ⟨r, e, f, g⟩ := h; exact ⟨r, by rw [hμ, hh]; exact e, f.later L, by rw [hμ]; exact g⟩
  | dfr => exact ⟨by rw [hμ, hh]; exact h.1, by rw [hμ]; exact h.2⟩
  | shut => exact ⟨by rw [hμ, hh]; exact h.1, by rw [hμ]; exact h.2⟩

section new
variable {G B z : Nat} {S : Wd} {o : AO} {obj : Obj}
theorem new_g (b : Nat) (hb : b ≠ z) : (S.new z o obj).H.g b = S.H.g b := by simp [Wd.new, SH.newAt, hb]
theorem new_g_nx : (S.new z o obj).H.g z = some o := by simp [Wd.new, SH.newAt]
theorem new_μ (b : Nat) (hb : b ≠ z) : (S.new z o obj).μ b = S.μ b := by simp [Wd.new, hb]
theorem new_μ_nx : (S.new z o obj).μ z = (S.w.heap.size, 0) := by simp [Wd.new]
theorem new_unm {k : Nat} (hk : k < S.w.heap.size) (h : Unm S k) : Unm (S.new z o obj) k := by
  intro b o' hb
  by_cases e : b = z
  · subst e; rw [new_μ_nx]; simp only; omega
  · rw [new_g b e] at hb; rw [new_μ b e]; exact h b o' hb
theorem stp_new (h : Rel G B S) (hz : ¬ S.H.al z) : Stp B S (S.new z o obj) where
  a := fun a c ha => by
    have hne : a.b ≠ z := fun e => hz (e ▸ ha.lt)
    refine ⟨.inr ha.lt, ha.base, ha.spot, fun n t k hg => ?_⟩
    rw [new_g _ hne] at hg
    have hp := ha.place n t k hg
    have hl := h.lt hg
    cases k with
    | fixed ro => simpa only [Place, new_μ _ hne] using hp
    | rub st lo =>
      refine ⟨hp.1, fun h1 h2 => ?_⟩
      rcases hp.2 h1 h2 with hp | ho
      · left; simpa only [new_μ _ hne] using hp
      · right
        refine ⟨ho.tip, new_unm ho.lt ho.unm, by have := ho.lt; simp only [Wd.new, World.size_alloc]; omega, fun i hi1 hi2 => ?_⟩
        rw [new_μ _ hne]
        show (S.w.alloc obj).cell? _ = (S.w.alloc obj).cell? _
        rw [cell_same (heap_alloc_lt _ _ ho.lt), cell_same (heap_alloc_lt _ _ hl)]
        exact ho.same i hi1 hi2
  c := fun a len cap opn c cap' ha hc => by
    have hne : a.b ≠ z := fun e => hz (e ▸ ha.lt)
    refine ⟨hc.le, hc.exact, hc.ge, fun h0 n t st lo hg h1 h2 h3 cs ty fr he => ?_⟩
    rw [new_g _ hne] at hg
    rw [new_μ _ hne] at he
    have he' : (S.w.alloc obj).heap[(S.μ a.b).1]? = some (.cells cs ty fr) := he
    rw [heap_alloc_lt _ _ (h.lt hg)] at he'
    exact hc.fits h0 n t st lo hg h1 h2 h3 cs ty fr he'
  m := fun r r' hr => ⟨.inr hr.lt, fun o hg hi => by
    have hne : r ≠ z := fun e => hz (e ▸ hr.lt)
    rw [new_g _ hne] at hg; rw [new_μ _ hne]; exact hr.at_ o hg hi⟩
  f := fun f f' hf => by
    cases hf with
    | func f => exact .func f
    | yield l l' lt at_ =>
      have hne : l ≠ z := fun e => hz (e ▸ lt)
      exact .yield l l' (.inr lt) fun x hg => by rw [new_g _ hne] at hg; rw [new_μ _ hne]; exact at_ x hg
  frm := fun k hk hu => ⟨heap_alloc_lt _ _ hk, new_unm hk hu⟩
  below := (Below.refl _ _).alloc h.base _
  nx := fun _ h => .inr h
  dom := fun b hb hn => by rw [new_g b (fun e => by subst e; exact hz hb)]; exact hn
/-- A new block. -/
theorem rel_new (h : Rel G B S) (hz : ¬ S.H.al z) (ho : ObjRel (S.new z o obj) B z o) : Rel G B (S.new z o obj) where
  gb := h.gb
  base := by have := h.base; simp only [Wd.new, World.size_alloc]; omega
  gnx := fun b hb => .inr (h.gnx b hb)
  glob := fun b o' hb hg => by
    have hne : b ≠ z := fun e => hz (e ▸ h.gnx b hb)
    rw [new_g b hne] at hg; rw [new_μ b hne]; exact h.glob b o' hb hg
  dom := fun b o' hg => by
    by_cases e : b = z
    · exact .inl e
    · rw [new_g b e] at hg; exact .inr (h.dom b o' hg)
  inj := fun b b' o1 o2 h1 h2 he => by
    by_cases e : b = z <;> by_cases e' : b' = z
    · rw [e, e']
    · subst e
      rw [new_g b' e'] at h2
      rw [new_μ_nx, new_μ b' e'] at he
      have := h.lt h2
      simp only at he
      omega
    · subst e'
      rw [new_g b e] at h1
      rw [new_μ_nx, new_μ b e] at he
      have := h.lt h1
      simp only at he
      omega
    · rw [new_g b e] at h1
      rw [new_g b' e'] at h2
      rw [new_μ b e, new_μ b' e'] at he
      exact h.inj b b' o1 o2 h1 h2 he
  obj := fun b o' hg => by
    by_cases e : b = z
    · subst e
      rw [new_g_nx] at hg
      cases hg
      exact ho
    · rw [new_g b e] at hg
      exact (h.obj b o' hg).keep (stp_new h hz).later (new_μ b e) (heap_alloc_lt _ _ (h.lt hg))
/-- The heap that the evaluator holds, with a new block. -/
theorem At.new {E : Nat → Option AO} {R : Nat → Prop} {G B : Nat} {H : AHeap} {S : Wd} (hR : Rel G B S) (h : At E R H S) (o : AO) (obj : Obj) :
    At E R (newH H o) (S.new H.next o obj) where
  g := fun b => by
    simp only [newH, Wd.new, SH.newAt, Tr.get_set]
    by_cases e : b = H.next
    · simp [e]
    · simp only [if_neg e]; exact h.g b
  sep := fun b o' hb => by
    simp only [newH, Tr.get_set]
    rw [if_neg (by have := h.al b (hR.dom b o' (by rw [h.g, h.sep b o' hb]; exact hb)); omega)]
    exact h.sep b o' hb
  al := fun b hb => by
    rcases hb with rfl | hb
    · exact Nat.lt_succ_self _
    · exact Nat.lt_succ_of_lt (h.al b hb)
  r := fun b hb => ⟨Nat.lt_succ_of_lt (h.r b hb).1, fun x => by
    rcases x with rfl | x
    · exact absurd (h.r _ hb).1 (Nat.lt_irrefl _)
    · exact (h.r b hb).2 x⟩
end new

/-- The block of b has turned, and nothing else. -/
structure Turn (S S' : Wd) (b : Nat) : Prop where
  g : ∀ x, x ≠ b → S'.H.g x = S.H.g x
  nx : S'.H.al = S.H.al
  μ : ∀ x, x ≠ b → S'.μ x = S.μ x
  μb : (S'.μ b).1 = (S.μ b).1
  heap : ∀ k, k ≠ (S.μ b).1 → S'.w.heap[k]? = S.w.heap[k]?
  size : S'.w.heap.size = S.w.heap.size
  os : S'.w.os = S.w.os
  tape : S'.w.tape = S.w.tape
  output : S'.w.output = S.w.output

section turn
variable {G B : Nat} {S S' : Wd} {b : Nat} {o : AO}
theorem Turn.unm (T : Turn S S' b) (hb : S.H.g b = some o) {k : Nat} (h : Unm S k) : Unm S' k := by
  intro x o' hx
  by_cases e : x = b
  · subst e; rw [T.μb]; exact h x o hb
  · rw [T.g x e] at hx; rw [T.μ x e]; exact h x o' hx
theorem stp_turn (h : Rel G B S) (T : Turn S S' b) (hb : S.H.g b = some o) (hB : B ≤ (S.μ b).1)
    (ha : ∀ a c, a.b = b → ARel S a c → ARel S' a c)
    (hc : ∀ a len cap opn c cap', a.b = b → ARel S a c → CRel S a len cap opn c cap' → CRel S' a len cap opn c cap')
    (hm : ∀ o, S'.H.g b = some o → isRef o = true → ∃ o, S.H.g b = some o ∧ isRef o = true)
    (hf : ∀ l, S'.H.g b = some (.loop l) → ∃ l, S.H.g b = some (.loop l)) : Stp B S S' where
  a := fun a c hA => by
    by_cases e : a.b = b
    · exact ha a c e hA
    · refine ⟨by rw [T.nx]; exact hA.lt, hA.base, hA.spot, fun n t k hg => ?_⟩
      rw [T.g _ e] at hg
      have hp := hA.place n t k hg
      cases k with
      | fixed ro => simpa only [Place, T.μ _ e] using hp
      | rub st lo =>
        refine ⟨hp.1, fun h1 h2 => ?_⟩
        rcases hp.2 h1 h2 with hp | ho
        · left; simpa only [T.μ _ e] using hp
        · right
          refine ⟨ho.tip, T.unm hb ho.unm, by rw [T.size]; exact ho.lt, fun i hi1 hi2 => ?_⟩
          rw [T.μ _ e, cell_same (T.heap _ (Ne.symm (ho.unm b o hb))), cell_same (T.heap _ (fun x => e (h.inj _ _ _ _ hg hb x)))]
          exact ho.same i hi1 hi2
  c := fun a len cap opn c cap' hA hC => by
    by_cases e : a.b = b
    · exact hc a len cap opn c cap' e hA hC
    · refine ⟨hC.le, hC.exact, hC.ge, fun h0 n t st lo hg h1 h2 h3 cs ty fr he => ?_⟩
      rw [T.g _ e] at hg
      rw [T.μ _ e, T.heap _ (fun x => e (h.inj _ _ _ _ hg hb x))] at he
      exact hC.fits h0 n t st lo hg h1 h2 h3 cs ty fr he
  m := fun r r' hr => ⟨by rw [T.nx]; exact hr.lt, fun o hg hi => by
    by_cases e : r = b
    · subst e
      obtain ⟨o', hg', hi'⟩ := hm o hg hi
      rw [T.μb]; exact hr.at_ o' hg' hi'
    · rw [T.g _ e] at hg; rw [T.μ _ e]; exact hr.at_ o hg hi⟩
  f := fun f f' hF => by
    cases hF with
    | func f => exact .func f
    | yield l l' lt at_ =>
      refine .yield l l' (by rw [T.nx]; exact lt) fun x hg => ?_
      by_cases e : l = b
      · subst e
        obtain ⟨l'', hg'⟩ := hf x hg
        rw [T.μb]; exact at_ l'' hg'
      · rw [T.g _ e] at hg; rw [T.μ _ e]; exact at_ x hg
  frm := fun k _ hu => ⟨T.heap k (Ne.symm (hu b o hb)), T.unm hb hu⟩
  below := ⟨T.os, T.tape, T.output, by rw [T.size]; exact Nat.le_refl _, fun k hk => T.heap k (by omega)⟩
  nx := fun b h => by rw [T.nx]; exact h
  dom := fun x _ hn => by
    by_cases e : x = b
    · subst e; rw [hb] at hn; cases hn
    · rw [T.g _ e]; exact hn
theorem rel_turn (h : Rel G B S) (T : Turn S S' b) (hb : S.H.g b = some o) (L : Later S S') (hG : b < G → S'.μ b = (b, 0))
    (ho : ∀ o', S'.H.g b = some o' → ObjRel S' B b o') : Rel G B S' where
  gb := h.gb
  base := by rw [T.size]; exact h.base
  gnx := fun b hb => by rw [T.nx]; exact h.gnx b hb
  glob := fun x o' hx hg => by
    by_cases e : x = b
    · subst e; exact hG hx
    · rw [T.g x e] at hg; rw [T.μ x e]; exact h.glob x o' hx hg
  dom := fun x o' hg => by
    rw [T.nx]
    by_cases e : x = b
    · subst e; exact h.dom x o hb
    · rw [T.g x e] at hg; exact h.dom x o' hg
  inj := fun x y o1 o2 h1 h2 he => by
    by_cases e : x = b <;> by_cases e' : y = b
    · rw [e, e']
    · subst e
      rw [T.g y e'] at h2
      rw [T.μb, T.μ y e'] at he
      exact h.inj _ _ _ _ hb h2 he
    · subst e'
      rw [T.g x e] at h1
      rw [T.μb, T.μ x e] at he
      exact h.inj _ _ _ _ h1 hb he
    · rw [T.g x e] at h1
      rw [T.g y e'] at h2
      rw [T.μ x e, T.μ y e'] at he
      exact h.inj _ _ _ _ h1 h2 he
  obj := fun x o' hg => by
    by_cases e : x = b
    · subst e; exact ho o' hg
    · rw [T.g x e] at hg
      exact (h.obj x o' hg).keep L (T.μ x e) (T.heap _ (fun z => e (h.inj _ _ _ _ hg hb z)))
end turn

/-- The heap that the evaluator holds, where one block has turned. -/
theorem At.turn {E : Nat → Option AO} {R : Nat → Prop} {H : AHeap} {S S' : Wd} {b : Nat} {o o' : AO} (h : At E R H S) (hb : H.t.get b = some o') (T : Turn S S' b) (ho : S'.H.g b = some o) :
    At E R (putH H b o) S' where
  g := fun x => by
    simp only [putH, Tr.get_set]
    by_cases e : x = b
    · subst e; simp [ho]
    · rw [if_neg e, T.g x e]; exact h.g x
  sep := fun x o'' hx => by
    simp only [putH, Tr.get_set]
    rw [if_neg (fun e => by subst e; rw [h.sep _ _ hx] at hb; cases hb)]
    exact h.sep x o'' hx
  al := fun x hx => by rw [T.nx] at hx; exact h.al x hx
  r := fun x hx => by rw [T.nx]; exact h.r x hx

/-- A draw. -/
def Wd.drewN (S : Wd) (k : Nat) : Wd := ⟨S.H, S.μ, { S.w with drawn := S.w.drawn + k }⟩
theorem stp_drewN (B : Nat) (S : Wd) (k : Nat) : Stp B S (S.drewN k) where
  a := fun _ _ h => ⟨h.lt, h.base, h.spot, fun n t k hg => by
    have hp := h.place n t k hg
    cases k with
    | fixed ro => exact hp
    | rub st lo =>
      refine ⟨hp.1, fun h1 h2 => ?_⟩
      rcases hp.2 h1 h2 with hp | ho
      · exact .inl hp
      · exact .inr ⟨ho.tip, ho.unm, ho.lt, ho.same⟩⟩
  c := fun _ _ _ _ _ _ _ h => ⟨h.le, h.exact, h.ge, h.fits⟩
  m := fun _ _ h => ⟨h.lt, h.at_⟩
  f := fun _ _ h => by cases h with
    | func f => exact .func f
    | yield l l' lt at_ => exact .yield l l' lt at_
  frm := fun _ _ h => ⟨rfl, h⟩
  below := ⟨rfl, rfl, rfl, Nat.le_refl _, fun _ _ => rfl⟩
  nx := fun _ h => h
  dom := fun _ _ h => h
theorem rel_drewN {G B : Nat} {S : Wd} (h : Rel G B S) (k : Nat) : Rel G B (S.drewN k) :=
  ⟨h.gb, h.base, h.gnx, h.glob, h.dom, h.inj, fun b o hg => (h.obj b o hg).keep (stp_drewN B S k).later rfl rfl⟩
theorem At.drewN {E : Nat → Option AO} {R : Nat → Prop} {H : AHeap} {S : Wd} (h : At E R H S) (k : Nat) : At E R H (S.drewN k) := ⟨h.g, h.sep, h.al, h.r⟩
end Go.Ev
