/- PART OF A PROOF: an evaluator over the model (its own text), and that it is sound: what it reckons, the machine does. No condition. -/
import Derived.Test.YtcbdaloghdidfabGreatDoorEvOp
namespace Go.Ev
open Go.RowKit
section
variable {P : Program} {K : Kx} {B : Nat} {S : Wd} {E : Nat → Option AO} {R : Nat → Prop} {H H' : AHeap} {a : Act} {tm : Tr AV}

/-- What an operation comes to, in a region of an activation (or of a round). -/
def OpR (P : Program) (r : Option Nat) (B : Nat) (E : Nat → Option AO) (R : Nat → Prop) (S : Wd) (o : Oper) (a : Act) (v : AV) (H' : AHeap) : Prop :=
  ∀ (next : Act → World → Prop) (Q : Exit → Act → World → Prop), (∀ v' S', VRel S' v v' → Behind P B E R S H' S' → next (a.put o.dst v') S'.w) → o.wpIn (Fw r) 0 P a S.w next Q

theorem opR_of {r : Option Nat} {o : Oper} {v : AV} (hd : ∀ c, o.op ≠ .defer c) (h : ∀ (next : Act → World → Prop) (Q : Exit → Act → World → Prop), (∀ v' S', VRel S' v v' → Behind P B E R S H' S' → next (a.put o.dst v') S'.w) →
    o.uponIn (Fw r) 0 P a next Q ((execOp a.eval o).run P S.w)) : OpR P r B E R S o a v H' := fun next Q hn =>
  ⟨fun _ _ => trivial, by rw [Oper.semAt_eq _ _ _ hd]; exact h next Q hn⟩
theorem opR_value {r : Option Nat} {o : Oper} {v : AV} {v' : Value} {S' : Wd} (hd : ∀ c, o.op ≠ .defer c) (hr : (execOp a.eval o).run P S.w = .ok (.value v') S'.w) (hv : VRel S' v v') (hb : Behind P B E R S H' S') : OpR P r B E R S o a v H' :=
  opR_of hd fun next Q hn => by rw [hr, Oper.uponIn_value]; exact hn _ _ hv hb
theorem opR_skip {r : Option Nat} {o : Oper} {S' : Wd} (hd : ∀ c, o.op ≠ .defer c) (hr : (execOp a.eval o).run P S.w = .ok .skip S'.w) (hb : Behind P B E R S H' S') : OpR P r B E R S o a undefA H' :=
  opR_of hd fun next Q hn => by rw [hr, Oper.uponIn_skip]; exact hn _ _ (.tup _ [] .nil) hb

/-! ### A round -/
def Wd.loopd (S : Wd) (b : Nat) (l : ALoop) (o : Obj) : Wd := ⟨S.H.put b (.loop l), S.μ, S.w.putObj (S.μ b).1 o⟩
theorem turn_loopd {b : Nat} {l : ALoop} {o : Obj} : Turn S (S.loopd b l o) b where
  g := fun x hx => by simp [Wd.loopd, SH.put, hx]
  nx := rfl
  μ := fun _ _ => rfl
  μb := rfl
  heap := fun k hk => World.putObj_heap_other hk
  size := World.putObj_size
  os := rfl
  tape := rfl
  output := rfl
theorem loopd_g {b : Nat} {l : ALoop} {o : Obj} : (S.loopd b l o).H.g b = some (.loop l) := by simp [Wd.loopd, SH.put]
theorem loopd_ok {b : Nat} {l l2 : ALoop} {r2 : Loop} (h : Rel P.globals.size B S) (hH : At E R H S) (hg : H.t.get b = some (.loop l)) (hl : LRel S l2 r2) :
    Behind P B E R S (putH H b (.loop l2)) (S.loopd b l2 (.loop r2)) := by
  have hg' := hH.get hg
  obtain ⟨r, hr, _, hB⟩ := h.obj _ _ hg'
  have T : Turn S (S.loopd b l2 (.loop r2)) b := turn_loopd
  have sp : Stp B S (S.loopd b l2 (.loop r2)) := by
    refine stp_turn h T hg' hB ?_ ?_ ?_ (fun _ _ => ⟨_, hg'⟩)
    · rintro a c rfl hA
      exact ⟨hA.lt, hA.base, hA.spot, fun n t k hk => by rw [loopd_g] at hk; cases hk⟩
    · rintro a len cap opn c cap' rfl hA hC
      exact ⟨hC.le, hC.exact, hC.ge, fun _ m u s l hk => by rw [loopd_g] at hk; cases hk⟩
    · intro o hk hi; rw [loopd_g] at hk; cases hk; cases hi
  refine ⟨rel_turn h T hg' sp.later (fun hb => h.glob b _ hb hg') fun o' ho => ?_, sp, hH.turn hg turn_loopd loopd_g⟩
  rw [loopd_g] at ho
  cases ho
  exact ⟨r2, World.putObj_heap_same (h.lt hg'), hl.later sp.later, hB⟩
theorem Behind.trans {S₁ S₂ : Wd} {H₁ H₂ : AHeap} (h : Behind P B E R S H₁ S₁) (k : Behind P B E R S₁ H₂ S₂) : Behind P B E R S H₂ S₂ :=
  ⟨k.rel, h.stp.trans k.stp, k.at_⟩
theorem loopAt_eq {l : Nat} {x : ALoop} (h : loopAt H l = some x) : H.t.get l = some (.loop x) := by
  simp only [loopAt, ob_eq] at h
  obtain ⟨o, ho, h⟩ := h
  split at h
  · cases h; exact ho
  · cases h

theorem yield_run (hK : KOK P K) {l l' : Nat} {args : List AV} {vs : List Value} {v : AV} (h : Rel P.globals.size B S) (hH : At E R H S) (hf : FnRel S (.yield l) (.yield l')) (hv : VRels S args vs)
    (he : yieldA K l args H = some (v, H')) : ∃ rl : Loop, ∃ tmps : Array Value, (Instr.yield l' vs.toArray).run P S.w = .ok (.round l' rl.fn tmps rl.assign rl.body) S.w ∧
      RoundIn Fence.wide 0 P l' rl.fn tmps rl.assign rl.body S.w (CallR P B E R S v H') := by
  simp only [yieldA, ob_eq] at he
  obtain ⟨x, hx, tm, htm, ⟨e1, s1⟩, h1, he⟩ := he
  have hx := loopAt_eq hx
  have hg := hH.get hx
  obtain ⟨rl, hrl, hL, hB⟩ := h.obj _ _ hg
  have hl' : l' = (S.μ l).1 := by cases hf with | yield _ _ _ at_ => exact at_ x hg
  rw [← hl'] at hrl
  obtain ⟨p1, p2, p3⟩ := setPs_rel hv htm hL.nt hL.tm
  refine ⟨rl, _, run_yield hrl (by rw [List.size_toArray, p1, ← hL.params]; simp), ?_⟩
  have ezip : (rl.params.zip vs.toArray).foldl (fun tmps (t, a) => tmps.setIfInBounds t a) rl.tmps = (x.params.zip vs).foldl (fun tmps (t, a) => tmps.setIfInBounds t a) rl.tmps := by
    rw [← Array.foldl_toList, Array.toList_zip, hL.params]
  rw [ezip]
  refine roundIn_of_wpIn trivial ?_
  cases e1 with
  | normal =>
    simp only [chk_eq, ob_eq] at he
    obtain ⟨hd1, x1, hx1, hs, ⟨e2, s2⟩, h2, hd2, j, hj, x2, hx2, he⟩ := he
    simp only [Option.some.injEq, Prod.mk.injEq] at he
    obtain ⟨rfl, rfl⟩ := he
    rw [hL.assign, hL.body]
    have c1 := hK.run _ _ _ _ _ _ h1 B E R S { tmps := (x.params.zip vs).foldl (fun tmps (t, a) => tmps.setIfInBounds t a) rl.tmps, defers := [] } (some l') h hH p2 p3 trivial hf
    refine wpIn_mono c1 fun e' a' w' hq => ?_
    obtain ⟨rfl, S1, rfl, b1, t1, n1, d1⟩ := hq
    have hx1 := loopAt_eq hx1
    have hg1 := b1.at_.get hx1
    obtain ⟨rl1, hrl1, hL1, _⟩ := b1.rel.obj _ _ hg1
    have hf1 := b1.stp.f _ _ hf
    have hl1 : l' = (S1.μ l).1 := by cases hf1 with | yield _ _ _ at_ => exact at_ x1 hg1
    rw [← hl1] at hrl1
    have hready : rl1.state = .ready := by
      rw [hL1.state]
      cases hst : x1.state <;> rw [hst] at hs <;> first | rfl | cases hs
    refine ⟨_, run_beginRound hrl1 hready, ?_⟩
    have b2 := loopd_ok (l2 := { x1 with state := .busy }) (r2 := { rl1 with state := .busy }) b1.rel b1.at_ hx1 ⟨rfl, hL1.pend, hL1.nt, hL1.tm, hL1.params, hL1.assign, hL1.body⟩
    have ew : S1.w.putObj l' (.loop { rl1 with state := .busy }) = (S1.loopd l { x1 with state := .busy } (.loop { rl1 with state := .busy })).w := by simp only [Wd.loopd]; rw [← hl1]
    rw [ew]
    have hd0 : s1.df = [] := by cases hdf : s1.df with | nil => rfl | cons _ _ => rw [hdf] at hd1; cases hd1
    have hda : a'.defers = [] := by
      rw [hd0] at d1
      cases hdf : a'.defers with
      | nil => rfl
      | cons _ _ => rw [hdf] at d1; exact d1.elim
    have c2 := hK.run _ _ _ _ _ _ h2 B E R _ a' (some l') b2.rel b2.at_ (t1.later b2.stp.later) n1 (by rw [hda]; exact trivial) (b2.stp.f _ _ hf1)
    refine wpIn_mono c2 fun e'' a'' w'' hq2 => ?_
    obtain ⟨rfl, S2, rfl, b3, t2, n2, d2⟩ := hq2
    have hx2 := loopAt_eq hx2
    have hg2 := b3.at_.get hx2
    obtain ⟨rl2, hrl2, hL2, _⟩ := b3.rel.obj _ _ hg2
    have hf2 := b3.stp.f _ _ (b2.stp.f _ _ hf1)
    have hl2 : l' = (S2.μ l).1 := by cases hf2 with | yield _ _ _ at_ => exact at_ x2 hg2
    rw [← hl2] at hrl2
    have fin : ∀ jump : Option Code, jump = j → ∃ v w', (Instr.endRound l' jump).run P S2.w = .ok v w' ∧ CallR P B E R S (.bool j.isNone) (putH s2.H l (.loop { x2 with state := cond j.isNone .ready .done, pend := j })) (.returned v) w' := by
      intro jump hjj
      subst hjj
      have b4 := loopd_ok (l2 := { x2 with state := cond jump.isNone .ready .done, pend := jump }) (r2 := { rl2 with state := if jump.isNone then .ready else .done, pending := jump }) b3.rel b3.at_ hx2
        ⟨by cases jump <;> rfl, rfl, hL2.nt, hL2.tm, hL2.params, hL2.assign, hL2.body⟩
      refine ⟨_, _, run_endRound jump hrl2, _, ?_, .bool _, ((b1.trans b2).trans b3).trans b4⟩
      simp only [Wd.loopd]; rw [← hl2]
    cases e2 with
    | normal => cases hj; exact fin none rfl
    | ret => cases hj; exact fin (some .ret) rfl
    | exit id => cases hj; exact fin (some (.exit id)) rfl
    | goto t => cases hj
  | _ => cases he
end
end Go.Ev
