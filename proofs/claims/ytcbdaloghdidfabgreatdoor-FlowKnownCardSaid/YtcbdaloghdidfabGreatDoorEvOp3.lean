/- PART OF A PROOF: an evaluator over the model (its own text), and that it is sound: what it reckons, the machine does. No condition. -/
import Derived.Test.YtcbdaloghdidfabGreatDoorEvOp2
namespace Go.Ev
open Go.RowKit
section
variable {P : Program} {K : Kx} {B : Nat} {S : Wd} {E : Nat → Option AO} {R : Nat → Prop} {H H' : AHeap} {a : Act} {tm : Tr AV}

theorem callG_run (hK : KOK P K) {r : Option Nat} {o : Oper} {f : FuncId} {args : List AV} {vs : List Value} {v : AV} (hd : ∀ c, o.op ≠ .defer c) (h : Rel P.globals.size B S) (hH : At E R H S) (hv : VRels S args vs)
    (hr : (execOp a.eval o).run P S.w = (callFunc f vs.toArray).run P S.w) (he : callG K f args H = some (v, H')) : OpR P r B E R S o a v H' := by
  unfold callG at he
  split at he
  · rename_i x hx
    cases he
    obtain ⟨v', S', r1, r2, r3⟩ := hK.nat _ _ _ _ _ hx B E R S vs hv h hH
    exact opR_value hd (hr.trans r1) r2 r3
  · obtain ⟨⟨fn, c, hf, hb⟩, hc⟩ := hK.call _ _ _ _ _ he
    have hc := hc B E R S vs hv h hH
    refine opR_of hd fun next Q hn => ?_
    rw [hr, callFunc_enter hK.num hf hb, Oper.uponIn_enter]
    refine ⟨fun e => absurd e (by simp [Fw, Fence.wide]), callsIn_fw (hc.mono fun e w' hq => ?_)⟩
    cases e with
    | returned v' => obtain ⟨S', rfl, h1, h2⟩ := hq; exact hn _ _ h1 h2
    | panicked c => exact hq.elim
    | outgrown => exact hq.elim
theorem callV_run (hK : KOK P K) {r : Option Nat} {dst : Option Tmp} {type : TypeId} {pos : String} {after : Array Edge} {guard : Option (Nat × Bool)} {f : Operand} {os : Array Operand} {ats : Array TypeId} {fv : AV} {args : List AV} {vs : List Value} {v : AV} (h : Rel P.globals.size B S) (hH : At E R H S)
    (hf : VRel S fv (a.eval f)) (hv : VRels S args vs) (hvs : os.map a.eval = vs.toArray) (he : callV K H fv args = some (v, H')) :
    OpR P r B E R S ⟨dst, .call { callee := .value f, args := os, argTypes := ats }, type, pos, after, guard⟩ a v H' := by
  generalize hu : a.eval f = u at hf
  unfold callV at he
  split at he
  · rename_i g first cap
    cases hf
    rename_i f' xs' ys' hf hx hy
    cases hf
    refine callG_run (f := g) (vs := xs' ++ (vs ++ ys')) hK (by intro c e; cases e) h hH (hx.append (hv.append hy)) ?_ he
    simp only [execOp, resolve, hu, Deferred.ofValue, hvs, Sem.run_bind, Sem.run_pure, Result.andThen_ok, invoke]
    congr 2
    simp
  · rename_i l
    cases hf
    rename_i f' xs' ys' hf hx hy
    cases hx; cases hy
    cases hf with
    | yield _ l' lt at_ =>
      obtain ⟨rl, tmps, r1, r2⟩ := yield_run hK h hH (.yield l l' lt at_) hv he
      refine opR_of (by intro c e; cases e) fun next Q hn => ?_
      have hr : (execOp a.eval ⟨dst, .call { callee := .value f, args := os, argTypes := ats }, type, pos, after, guard⟩).run P S.w = .ok (.round l' rl.fn tmps rl.assign rl.body) S.w := by
        simp only [execOp, resolve, hu, Deferred.ofValue, hvs, Sem.run_bind, Sem.run_pure, Result.andThen_ok, invoke]
        rw [← r1]
        congr 2
        simp
      rw [hr, Oper.uponIn_round]
      refine ⟨fun e => absurd e (by simp [Fw, Fence.wide]), roundIn_fw (r2.mono fun e w' hq => ?_)⟩
      cases e with
      | returned v' => obtain ⟨S', rfl, h1, h2⟩ := hq; exact hn _ _ h1 h2
      | panicked c => exact hq.elim
      | outgrown => exact hq.elim
  · cases he
theorem map_eval {os : Array Operand} : os.map a.eval = (os.toList.map a.eval).toArray := Array.ext' (by simp)
theorem builtin_run {r : Option Nat} {dst : Option Tmp} {type : TypeId} {pos : String} {after : Array Edge} {guard : Option (Nat × Bool)} {b : Builtin} {os : Array Operand} {ats : Array TypeId} {v : AV} {s : Sem Value}
    (hb : ∀ cs, builtin b ats type cs (os.map a.eval) = (do pure (Next.value (← s)))) (hs : WRun P B E R S H' v s) :
    OpR P r B E R S ⟨dst, .call { callee := .builtin b, args := os, argTypes := ats }, type, pos, after, guard⟩ a v H' := by
  obtain ⟨v', S', r1, r2, r3, r4, r5⟩ := hs
  refine opR_value (by intro c e; cases e) (v' := v') (S' := S') ?_ r2 ⟨r3, r4, r5⟩
  simp only [execOp, resolve, Sem.run_bind, Sem.run_pure, Result.andThen_ok, invoke, hb, r1]

theorem evW_run (hK : KOK P K) {r : Option Nat} {o : Oper} {v : AV} (h : Rel P.globals.size B S) (hH : At E R H S) (hO : ∀ x ∈ o.op.operands.toList, ORel P S tm a x) (he : evW P K tm H o.op = some (v, H')) :
    OpR P r B E R S o a v H' := by
  obtain ⟨dst, op, type, pos, after, guard⟩ := o
  simp only at hO he
  cases op with
  | store t x y =>
    simp only [evW, ob_eq] at he
    obtain ⟨p, hp, he⟩ := he
    have rp := hO x (by simp [Op.operands]) _ hp
    generalize hu : a.eval x = u at rp
    split at he
    · cases rp
      rename_i c hA
      simp only [ob_eq, Option.some.injEq, Prod.mk.injEq] at he
      obtain ⟨y', hy, H1, hst, rfl, rfl⟩ := he
      obtain ⟨S', r1, r2, r3, r4⟩ := store_rel h hA hH hst (hO y (by simp [Op.operands]) _ hy)
      refine opR_skip (S' := S') (by intro c e; cases e) ?_ ⟨r3, r4, r2⟩
      simp [execOp, hu, Instr.storeAt, Instr.sureAddr, r1]
    · cases he
  | mapUpdate t m k x =>
    simp only [evW, ob_eq] at he
    obtain ⟨m', hm, k', hk, x', hx, H1, hu, he⟩ := he
    simp only [Option.some.injEq, Prod.mk.injEq] at he
    obtain ⟨rfl, rfl⟩ := he
    obtain ⟨S', r1, r2, r3, r4⟩ := mapUpd_run h hH (hO m (by simp [Op.operands]) _ hm) (hO k (by simp [Op.operands]) _ hk) (hO x (by simp [Op.operands]) _ hx) hu
    refine opR_skip (S' := S') (by intro c e; cases e) ?_ ⟨r2, r3, r4⟩
    simp [execOp, r1]
  | call c =>
    simp only [evW, ob_eq] at he
    obtain ⟨vs, hvs, he⟩ := he
    have r1 := evOs_rel (a := a) (fun x hx => hO x (by simp only [Op.operands, Call.operands, Array.toList_append, List.mem_append]; exact .inr hx)) hvs
    obtain ⟨callee, args, ats⟩ := c
    simp only at he hvs r1
    unfold evCallW at he
    cases callee with
    | invoke x n => cases he
    | value f =>
      simp only [ob_eq] at he
      obtain ⟨fv, hf, he⟩ := he
      exact callV_run hK h hH (hO f (by simp [Op.operands, Call.operands]) _ hf) r1 map_eval he
    | builtin b =>
      cases b with
      | append =>
        simp only at he
        split at he
        · rename_i s x
          split at he
          · rename_i t t2 hats
            simp only [chk_eq] at he
            obtain ⟨h1, he⟩ := he
            have h1 : t = t2 := by simpa using h1
            subst h1
            have hone : ∃ s' x', args.map a.eval = #[s', x'] ∧ VRel S s s' ∧ VRel S x x' := by
              rw [map_eval]
              generalize args.toList.map a.eval = us at r1
              cases r1 with
              | cons _ s' _ _ hv hs => cases hs with
                | cons _ x' _ _ hx hs => cases hs; exact ⟨s', x', rfl, hv, hx⟩
            obtain ⟨s', x', e, hs', hx'⟩ := hone
            have hats : ats = #[t, t] := Array.ext' hats
            subst hats
            exact builtin_run (fun cs => by rw [e]; rfl) (append_run (ty := type) h hH hs' hx' he)
          · cases he
        · cases he
      | copy =>
        simp only at he
        split at he
        · rename_i s x
          simp only [ob_eq] at he
          obtain ⟨t, ht, he⟩ := he
          have hone : ∃ s' x', args.map a.eval = #[s', x'] ∧ VRel S s s' ∧ VRel S x x' := by
            rw [map_eval]
            generalize args.toList.map a.eval = us at r1
            cases r1 with
            | cons _ s' _ _ hv hs => cases hs with
              | cons _ x' _ _ hx hs => cases hs; exact ⟨s', x', rfl, hv, hx⟩
          obtain ⟨s', x', e, hs', hx'⟩ := hone
          exact builtin_run (fun cs => by rw [e]; rfl) (copy_run (ty := type) ht h hH hs' hx' he)
        · cases he
      | _ => cases he
  | _ => cases he

theorem cls_nodefer {o : Oper} (h : (∃ v, evP P tm o.op = some v) ∨ (∃ v, evR P tm H o.op = some v) ∨ ∃ v, evA P tm o.op = some v) : ∀ c, o.op ≠ .defer c := by
  intro c e
  rw [e] at h
  rcases h with ⟨v, h⟩ | ⟨v, h⟩ | ⟨v, h⟩ <;> cases h

theorem opP_run {r : Option Nat} {o : Oper} {v : AV} (h : Rel P.globals.size B S) (hH : At E R H S) (hO : ∀ x ∈ o.op.operands.toList, ORel P S tm a x) (hc : cls P o.op = .p) (he : evP P tm o.op = some v) : OpR P r B E R S o a v H := by
  obtain ⟨v', r1, r2⟩ := evP_run (w := S.w) hO hc he
  exact opR_value (S' := S) (cls_nodefer (H := H) (.inl ⟨_, he⟩)) r1 r2 ⟨h, Stp.refl _ _, hH⟩
theorem opR_run {r : Option Nat} {o : Oper} {v : AV} {H₀ : AHeap} {E₀ : Nat → Option AO} {R₀ : Nat → Prop} (h : Rel P.globals.size B S) (hH : At E R H S) (hO : ∀ x ∈ o.op.operands.toList, ORel P S tm a x) (h₀ : At E₀ R₀ H₀ S) (he : evR P tm H₀ o.op = some v) : OpR P r B E R S o a v H := by
  obtain ⟨v', r1, r2⟩ := evR_run h h₀ hO he
  exact opR_value (S' := S) (cls_nodefer (H := H₀) (.inr (.inl ⟨_, he⟩))) r1 r2 ⟨h, Stp.refl _ _, hH⟩
theorem opA_run {r : Option Nat} {o : Oper} {ao : AO} {pk : Pk} {z : Nat} {E' : Nat → Option AO} {R' : Nat → Prop} (h : Rel P.globals.size B S) (hz : ¬ S.H.al z) (hO : ∀ x ∈ o.op.operands.toList, ORel P S tm a x)
    (hat : ∀ obj, At E' R' H' (S.new z ao obj)) (he : evA P tm o.op = some (ao, pk)) : ∀ (next : Act → World → Prop) (Q : Exit → Act → World → Prop),
    (∀ v' S', VRel S' (pk.at z) v' → Behind P B E' R' S H' S' → next (a.put o.dst v') S'.w) → o.wpIn (Fw r) 0 P a S.w next Q := by
  obtain ⟨obj, v', r1, r2, r3⟩ := evA_run h hz hO he
  exact opR_value (S' := S.new z ao obj) (cls_nodefer (H := H') (.inr (.inr ⟨_, he⟩))) r1 r3 ⟨rel_new h hz r2, stp_new h hz, hat obj⟩
theorem evOp_run (hK : KOK P K) {r : Option Nat} {o : Oper} {v : AV} (h : Rel P.globals.size B S) (hH : At E R H S) (hO : ∀ x ∈ o.op.operands.toList, ORel P S tm a x) (he : evOp P K tm H o.op = some (v, H')) :
    OpR P r B E R S o a v H' := by
  unfold evOp at he
  split at he
  · rename_i hc
    simp only [ob_eq, Option.some.injEq, Prod.mk.injEq] at he
    obtain ⟨v', hv, rfl, rfl⟩ := he
    exact opP_run h hH hO hc hv
  · simp only [ob_eq, Option.some.injEq, Prod.mk.injEq] at he
    obtain ⟨v', hv, rfl, rfl⟩ := he
    exact opR_run h hH hO hH hv
  · simp only [ob_eq, Option.some.injEq, Prod.mk.injEq] at he
    obtain ⟨⟨ao, pk⟩, hv, rfl, rfl⟩ := he
    exact opA_run h hH.fresh hO (fun obj => hH.new h ao obj) hv
  · exact evW_run hK h hH hO he
end
end Go.Ev
