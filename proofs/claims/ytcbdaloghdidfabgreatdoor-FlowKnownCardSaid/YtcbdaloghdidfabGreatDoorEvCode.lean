/- PART OF A PROOF: an evaluator over the model (its own text), and that it is sound: what it reckons, the machine does. No condition. -/
import Derived.Test.YtcbdaloghdidfabGreatDoorEvReg
namespace Go.Ev
open Go.RowKit
section
variable {P : Program} {K : Kx} {B : Nat} {S : Wd} {E : Nat → Option AO} {R : Nat → Prop} {H H' : AHeap} {a : Act} {tm : Tr AV}

theorem Post.trans {S₁ : Wd} {nt : Nat} {s₁ s₂ : AS} {e : Ex} {e' : Exit} {a' : Act} {w' : World} (hb : Behind P B E R S s₁.H S₁) (h : Post P B E R S₁ nt e s₂ e' a' w') : Post P B E R S nt e s₂ e' a' w' :=
  let ⟨h1, S2, h2, h3, h4⟩ := h; ⟨h1, S2, h2, hb.trans h3, h4⟩

/-- A loop, as far as its rounds go. -/
theorem iter_run {ro : Option Nat} {nt : Nat} {c : Code} {g : AS → Option (Ex × AS)} (hg : ∀ s e s', g s = some (e, s') → CodeOK P ro nt c s e s') :
    ∀ (lf : Nat) (s : AS) (e : Ex) (s' : AS), iter lf g s = some (e, s') → ∀ (B : Nat) (E : Nat → Option AO) (R : Nat → Prop) (S : Wd) (a : Act) (r : Option Nat), Rel P.globals.size B S → At E R s.H S → TmRel S s.tm.get a.tmps → a.tmps.size = nt → DfRel S s.df a.defers → RoRel S ro r →
      Code.roundsIn (Fw r) 0 P c (Post P B E R S nt e s') lf a S.w := by
  intro lf
  induction lf with
  | zero => intro s e s' he; cases he
  | succ lf ih =>
    intro s e s' he B E R S a r h hH ht hn hd hr
    simp only [iter, ob_eq] at he
    obtain ⟨⟨e1, s1⟩, h1, he⟩ := he
    rw [roundsIn_succ]
    refine wpIn_mono (hg _ _ _ h1 B E R S a r h hH ht hn hd hr) fun e' a' w' hq => ?_
    obtain ⟨rfl, S1, rfl, b1, t1, n1, d1⟩ := hq
    cases e1 with
    | normal =>
      simp only at he
      have := ih s1 e s' he B E R S1 a' r b1.rel b1.at_ t1 n1 d1 (hr.later b1.stp.later)
      simp only [exOf, Exit.then]
      have mono : ∀ lf (a : Act) (w : World) (Q Q' : Exit → Act → World → Prop), (∀ e a w, Q e a w → Q' e a w) → Code.roundsIn (Fw r) 0 P c Q lf a w → Code.roundsIn (Fw r) 0 P c Q' lf a w := by
        intro lf
        induction lf with
        | zero => intro a w Q Q' _ h; exact h
        | succ lf ih2 =>
          intro a w Q Q' hq h
          rw [roundsIn_succ] at h ⊢
          refine wpIn_mono h fun e a w hh => ?_
          cases e <;> first | exact ih2 _ _ _ _ hq hh | exact hq _ _ _ hh
      exact mono _ _ _ _ _ (fun _ _ _ hh => hh.trans b1) this
    | exit id => simp only [Option.some.injEq, Prod.mk.injEq] at he; obtain ⟨rfl, rfl⟩ := he; exact ⟨rfl, S1, rfl, b1, t1, n1, d1⟩
    | goto l => simp only [Option.some.injEq, Prod.mk.injEq] at he; obtain ⟨rfl, rfl⟩ := he; exact ⟨rfl, S1, rfl, b1, t1, n1, d1⟩
    | ret => simp only [Option.some.injEq, Prod.mk.injEq] at he; obtain ⟨rfl, rfl⟩ := he; exact ⟨rfl, S1, rfl, b1, t1, n1, d1⟩

/-! ### A range over a function -/
theorem endL_run {l l' : Nat} {e : Ex} (hf : FnRel S (.yield l) (.yield l')) (h : Rel P.globals.size B S) (hH : At E R H S) (he : endL H l = some (e, H')) :
    ∃ jump S', (Instr.endLoop l').run P S.w = .ok jump S'.w ∧ Behind P B E R S H' S' ∧ (match jump with | none => e = .normal | some .ret => e = .ret | some (.exit id) => e = .exit id | _ => False) := by
  simp only [endL, ob_eq, chk_eq, Option.some.injEq, Prod.mk.injEq] at he
  obtain ⟨x, hx, hs, e', hj, rfl, rfl⟩ := he
  have hx := loopAt_eq hx
  have hg := hH.get hx
  obtain ⟨rl, hrl, hL, hB⟩ := h.obj _ _ hg
  have hl' : l' = (S.μ l).1 := by cases hf with | yield _ _ _ at_ => exact at_ x hg
  rw [← hl'] at hrl
  have hnb : rl.state ≠ .busy := by
    rw [hL.state]
    intro hb
    rw [hb] at hs
    cases hs
  have b := loopd_ok (l2 := { x with state := .exhausted }) (r2 := { rl with state := .exhausted }) h hH hx ⟨rfl, hL.pend, hL.nt, hL.tm, hL.params, hL.assign, hL.body⟩
  have ew : S.w.putObj l' (.loop { rl with state := .exhausted }) = (S.loopd l { x with state := .exhausted } (.loop { rl with state := .exhausted })).w := by simp only [Wd.loopd]; rw [← hl']
  refine ⟨rl.pending, S.loopd l { x with state := .exhausted } (.loop { rl with state := .exhausted }), by rw [← ew]; exact run_endLoop hrl hnb, b, ?_⟩
  rw [hL.pend]
  unfold jumpEx at hj
  split at hj
  · rename_i e; rw [e]; cases hj; rfl
  · rename_i e; rw [e]; cases hj; rfl
  · rename_i e; rw [e]; cases hj; rfl
  · cases hj

theorem laid_loop {z nt : Nat} {ps : Array Tmp} {assign body : Code} {rl : Loop} (h : Rel P.globals.size B S) (hH : At E R H S) (hz : H.next = z) (ht : TmRel S tm.get rl.tmps) (hn : rl.tmps.size = nt)
    (h1 : rl.state = .ready) (h2 : rl.pending = none) (h3 : rl.params = ps) (h4 : rl.assign = assign) (h5 : rl.body = body) :
    Behind P B E R S (newH H (.loop ⟨.ready, none, tm, nt, ps.toList, assign, body⟩)) (S.new z (.loop ⟨.ready, none, tm, nt, ps.toList, assign, body⟩) (.loop rl)) ∧
      FnRel (S.new z (.loop ⟨.ready, none, tm, nt, ps.toList, assign, body⟩) (.loop rl)) (.yield z) (.yield S.w.heap.size) := by
  subst hz
  have sp := stp_new (o := .loop ⟨.ready, none, tm, nt, ps.toList, assign, body⟩) (obj := .loop rl) h hH.fresh
  refine ⟨⟨rel_new h hH.fresh ⟨rl, ?_, ⟨h1, h2, hn, ht.later sp.later, by rw [h3], h4, h5⟩, ?_⟩, sp, hH.new h _ _⟩, .yield _ _ (.inl rfl) fun x _ => ?_⟩
  · rw [new_μ_nx]; exact heap_alloc_new _ _
  · rw [new_μ_nx]; exact h.base
  · rw [new_μ_nx]
theorem laid_dfr (h : Rel P.globals.size B S) (hH : At E R H S) : Behind P B E R S (newH H .dfr) (S.new H.next .dfr (.deferred (some []))) ∧ MRel (S.new H.next .dfr (.deferred (some []))) H.next S.w.heap.size := by
  refine ⟨⟨rel_new h hH.fresh ⟨?_, ?_⟩, stp_new h hH.fresh, hH.new h _ _⟩, .inl rfl, fun _ _ _ => ?_⟩
  · rw [new_μ_nx]; exact heap_alloc_new _ _
  · rw [new_μ_nx]; exact h.base
  · rw [new_μ_nx]
theorem run_enterLoop_inner {w : World} {l' : Nat} {rl : Loop} (fn : FuncId) (tmps : Array Value) (ps : Array Tmp) (assign body : Code) (h : w.heap[l']? = some (.loop rl)) :
    (Instr.enterLoop fn tmps ps assign body (some l')).run P w = .ok (w.heap.size, []) (w.alloc (.loop { state := .ready, pending := none, fn, tmps, params := ps, assign, body, defers := rl.defers })) := by
  unfold Instr.enterLoop
  simp only [Sem.run_bind, run_getLoop h, run_newObj_alloc, Result.andThen, Sem.run_pure]

/-- The call of the function that is ranged over, and what lies behind. -/
theorem range_call (hK : KOK P K) {r : Option Nat} {nt f : Nat} {s s' : AS} {e : Ex} {g : Operand} {ps : Array Tmp} {assign body : Code} {first cap : List AV} {rv : AV} {H₁ H₂ : AHeap} {z : Nat}
    (hn : a.tmps.size = nt) (hs : s'.tm = s.tm)
    (hc : K.call f (first ++ ([.func (.yield z) [] []] ++ cap)) H₁ = some (rv, H₂)) (he : endL H₂ z = some (e, s'.H))
    (hall : ∀ fn' : FuncId, ∃ S₁ l' mark, Behind P B E R S H₁ S₁ ∧ TmRel S₁ s.tm.get a.tmps ∧ FnRel S₁ (.yield z) (.yield l') ∧ VRel S₁ (.func (.func f) first cap) (a.eval g) ∧ DfRel S₁ s'.df (mark ++ a.defers) ∧
      (Instr.enterLoop fn' a.tmps ps assign body r).run P S.w = .ok (l', mark) S₁.w) :
    (Code.rangeFunc g ps assign body).wpIn (Fw r) 0 P (Post P B E R S nt e s') a S.w := by
  obtain ⟨⟨fn, c, hfn, hbody⟩, hcall⟩ := hK.call _ _ _ _ _ hc
  refine wpIn_rangeFunc fun fn' _ => ?_
  obtain ⟨S₁, l', mark, hb, ht, hf, hg, hd, hen⟩ := hall fn'
  generalize hu : a.eval g = u at hg
  cases hg with
  | func f₀ f' xs ys xs' ys' hf' hx hy =>
  cases hf'
  have hargs : VRels S₁ (first ++ ([.func (.yield z) [] []] ++ cap)) (xs' ++ ([Value.func (.yield l') #[] #[]] ++ ys')) :=
    hx.append ((VRels.cons _ _ _ _ (.func _ _ [] [] [] [] hf .nil .nil) .nil).append hy)
  have hcall := hcall B E R S₁ _ hargs hb.rel hb.at_
  refine ⟨l', mark, S₁.w, { target := .fn (.func f) ys'.toArray, args := xs'.toArray ++ #[Value.func (.yield l') #[] #[]] }, S₁.w, f, (xs' ++ ([Value.func (.yield l') #[] #[]] ++ ys')).toArray, S₁.w, hen, ?_, fun _ _ => trivial, ?_, fun e => absurd e (by simp [Fw, Fence.wide]), ?_⟩
  · have e0 : a.eval (.const (.func (.yield l') #[] #[])) = Value.func (.yield l') #[] #[] := rfl
    simp only [resolve, hu, Deferred.ofValue]
    rw [show (#[Operand.const (.func (.yield l') #[] #[])] : Array Operand).map a.eval = #[Value.func (.yield l') #[] #[]] by simp [e0]]
    rfl
  · simp only [invoke]
    have e1 : xs'.toArray ++ #[Value.func (.yield l') #[] #[]] ++ ys'.toArray = (xs' ++ ([Value.func (.yield l') #[] #[]] ++ ys')).toArray := by simp
    rw [e1]
    exact callFunc_enter hK.num hfn hbody
  · refine callsIn_fw (hcall.mono fun en w' hq => ?_)
    cases en with
    | panicked c => exact hq.elim
    | outgrown => exact hq.elim
    | returned v' =>
      obtain ⟨S2, rfl, _, b2⟩ := hq
      obtain ⟨jump, S3, r3, b3, hj⟩ := endL_run (b2.stp.f _ _ hf) b2.rel b2.at_ he
      refine ⟨jump, S3.w, r3, ?_⟩
      have hall := (hb.trans b2).trans b3
      have L := b2.stp.later
      have L2 := b3.stp.later
      have done : ∀ e₀ : Ex, e = e₀ → Post P B E R S nt e s' (exOf e₀) { a with defers := mark ++ a.defers } S3.w := by
        rintro _ rfl
        exact ⟨rfl, S3, rfl, hall, by rw [hs]; exact (ht.later L).later L2, hn, (hd.later L).later L2⟩
      cases jump with
      | none => exact done .normal hj
      | some c =>
        cases c with
        | ret => exact wpIn_ret (done .ret hj)
        | exit id => exact wpIn_exit (done (.exit id) hj)
        | _ => exact hj.elim
theorem range_run (hK : KOK P K) {ro : Option Nat} {nt : Nat} {g : Operand} {ps : Array Tmp} {assign body : Code} {s s' : AS} {e : Ex} (he : evRange P K ro nt g ps assign body s = some (e, s')) :
    CodeOK P ro nt (.rangeFunc g ps assign body) s e s' := by
  intro B E R S a r h hH ht hn hd hr
  unfold evRange at he
  cases ro with
  | none =>
    cases r with
    | some _ => exact hr.elim
    | none =>
      simp only [ob_eq] at he
      obtain ⟨gv, hgv, he⟩ := he
      have hgr := orel_of h ht g gv hgv
      split at he
      · rename_i f first cap
        simp only [ob_eq, Option.some.injEq, Prod.mk.injEq] at he
        obtain ⟨⟨rv, H2⟩, hc, ⟨e2, H3⟩, hend, rfl, rfl⟩ := he
        refine range_call (s := s) hK hn rfl hc hend fun fn' => ?_
        obtain ⟨b1, m1⟩ := laid_dfr h hH
        have L1 := b1.stp.later
        obtain ⟨b2, f2⟩ := laid_loop (z := s.H.next + 1) (nt := nt) (ps := ps) (assign := assign) (body := body) (tm := s.tm)
          (rl := { state := .ready, pending := none, fn := fn', tmps := a.tmps, params := ps, assign, body, defers := S.w.heap.size }) b1.rel b1.at_ rfl (ht.later L1) hn rfl rfl rfl rfl rfl
        have L2 := b2.stp.later
        exact ⟨_, _, [{ target := .collected S.w.heap.size, args := #[] }], b1.trans b2, (ht.later L1).later L2, f2, (hgr.later L1).later L2, ⟨⟨_, rfl, L2.m _ _ m1⟩, (hd.later L1).later L2⟩, by rw [run_enterLoop_outer]; simp only [Wd.new, World.size_alloc]⟩
      · cases he
  | some l =>
    cases r with
    | none => exact hr.elim
    | some l' =>
      simp only [ob_eq] at he
      obtain ⟨x, hx, gv, hgv, he⟩ := he
      have hx := loopAt_eq hx
      have hg := hH.get hx
      obtain ⟨rl, hrl, hL, hB⟩ := h.obj _ _ hg
      have hl' : l' = (S.μ l).1 := by cases hr with | yield _ _ _ at_ => exact at_ x hg
      rw [← hl'] at hrl
      have hgr := orel_of h ht g gv hgv
      split at he
      · rename_i f first cap
        simp only [ob_eq, Option.some.injEq, Prod.mk.injEq] at he
        obtain ⟨⟨rv, H2⟩, hc, ⟨e2, H3⟩, hend, rfl, rfl⟩ := he
        refine range_call (s := s) hK hn rfl hc hend fun fn' => ?_
        obtain ⟨b2, f2⟩ := laid_loop (z := s.H.next) (nt := nt) (ps := ps) (assign := assign) (body := body) (tm := s.tm)
          (rl := { state := .ready, pending := none, fn := fn', tmps := a.tmps, params := ps, assign, body, defers := rl.defers }) h hH rfl ht hn rfl rfl rfl rfl rfl
        have L2 := b2.stp.later
        exact ⟨_, _, [], b2, ht.later L2, f2, hgr.later L2, hd.later L2, run_enterLoop_inner fn' a.tmps ps assign body hrl⟩
      · cases he

/-! ### Code -/
def DrawOK (P : Program) (K : Kx) : Prop := ∀ (ro : Option Nat) (id nt : Nat) (ops : Array Oper) (s s' : AS), evDraw P K nt ops s = some s' → CodeOK P ro nt (.region id ops true) s .normal s'
theorem inBlk_post {id nt : Nat} {e : Ex} {s : AS} {e' : Exit} {a' : Act} {w' : World} (h : Post P B E R S nt e s e' a' w') : Exit.inBlock id (Post P B E R S nt (inBlk id e) s) e' a' w' := by
  obtain ⟨rfl, S', h1, h2⟩ := h
  cases e with
  | exit i =>
    simp only [exOf, Exit.inBlock, inBlk, cond_eq]
    by_cases hi : i = id
    · subst hi; rw [if_pos rfl]; exact ⟨by simp [exOf], S', h1, h2⟩
    · rw [if_neg hi]; exact ⟨by simp [hi, exOf], S', h1, h2⟩
  | _ => exact ⟨rfl, S', h1, h2⟩
theorem code_run (hK : KOK P K) (hD : DrawOK P K) {ro : Option Nat} {lf nt : Nat} : ∀ (c : Code) (s : AS) (e : Ex) (s' : AS), evCode P K ro lf nt c s = some (e, s') → CodeOK P ro nt c s e s' := by
  intro c
  induction c with
  | skip => intro s e s' he; cases he; exact fun B E R S a r h hH ht hn hd hr => wpIn_skip ⟨rfl, S, rfl, .refl h hH, ht, hn, hd⟩
  | label l => intro s e s' he; cases he; exact fun B E R S a r h hH ht hn hd hr => wpIn_label ⟨rfl, S, rfl, .refl h hH, ht, hn, hd⟩
  | exit id => intro s e s' he; cases he; exact fun B E R S a r h hH ht hn hd hr => wpIn_exit ⟨rfl, S, rfl, .refl h hH, ht, hn, hd⟩
  | goto l => intro s e s' he; cases he; exact fun B E R S a r h hH ht hn hd hr => wpIn_goto ⟨rfl, S, rfl, .refl h hH, ht, hn, hd⟩
  | ret => intro s e s' he; cases he; exact fun B E R S a r h hH ht hn hd hr => wpIn_ret ⟨rfl, S, rfl, .refl h hH, ht, hn, hd⟩
  | region id ops draw =>
    intro s e s' he
    simp only [evCode, ob_eq, Option.some.injEq, Prod.mk.injEq] at he
    obtain ⟨s1, h1, rfl, rfl⟩ := he
    cases draw with
    | true => exact hD ro id nt ops s s1 h1
    | false =>
      simp only [evRegion, ob_eq, Option.some.injEq] at h1
      obtain ⟨⟨tm, H⟩, h2, rfl⟩ := h1
      exact region_run hK h2
  | seq x y ihx ihy =>
    intro s e s' he
    simp only [evCode, ob_eq] at he
    obtain ⟨⟨e1, s1⟩, h1, he⟩ := he
    intro B E R S a r h hH ht hn hd hr
    refine wpIn_seq (wpIn_mono (ihx _ _ _ h1 B E R S a r h hH ht hn hd hr) fun e' a' w' hq => ?_)
    obtain ⟨rfl, S1, rfl, b1, t1, n1, d1⟩ := hq
    cases e1 with
    | normal =>
      simp only at he
      exact wpIn_mono (ihy _ _ _ he B E R S1 a' r b1.rel b1.at_ t1 n1 d1 (hr.later b1.stp.later)) fun _ _ _ hh => hh.trans b1
    | exit id => simp only [Option.some.injEq, Prod.mk.injEq] at he; obtain ⟨rfl, rfl⟩ := he; exact ⟨rfl, S1, rfl, b1, t1, n1, d1⟩
    | goto l => simp only [Option.some.injEq, Prod.mk.injEq] at he; obtain ⟨rfl, rfl⟩ := he; exact ⟨rfl, S1, rfl, b1, t1, n1, d1⟩
    | ret => simp only [Option.some.injEq, Prod.mk.injEq] at he; obtain ⟨rfl, rfl⟩ := he; exact ⟨rfl, S1, rfl, b1, t1, n1, d1⟩
  | cond c x y ihx ihy =>
    intro s e s' he
    simp only [evCode, ob_eq] at he
    obtain ⟨v, hv, he⟩ := he
    intro B E R S a r h hH ht hn hd hr
    have hc := orel_of h ht c v hv
    generalize hu : a.eval c = u at hc
    split at he
    · cases hc; exact wpIn_cond_true hu (ihx _ _ _ he B E R S a r h hH ht hn hd hr)
    · cases hc; exact wpIn_cond_false hu (ihy _ _ _ he B E R S a r h hH ht hn hd hr)
    · cases he
  | block id x ih =>
    intro s e s' he
    simp only [evCode, ob_eq, Option.some.injEq, Prod.mk.injEq] at he
    obtain ⟨⟨e1, s1⟩, h1, rfl, rfl⟩ := he
    intro B E R S a r h hH ht hn hd hr
    exact wpIn_block (wpIn_mono (ih _ _ _ h1 B E R S a r h hH ht hn hd hr) fun _ _ _ hq => inBlk_post hq)
  | loop x ih =>
    intro s e s' he B E R S a r h hH ht hn hd hr
    exact wpIn_loop_rounds lf (iter_run ih lf s e s' he B E R S a r h hH ht hn hd hr)
  | rangeFunc g ps x y _ _ => intro s e s' he; exact range_run hK he
  | scope x _ => intro s e s' he; cases he
  | refuse w => intro s e s' he; cases he
end
end Go.Ev
