/- PART OF A PROOF: an evaluator over the model (its own text), and that it is sound: what it reckons, the machine does. No condition. -/
import Derived.Test.YtcbdaloghdidfabGreatDoorEvOp3
namespace Go.Ev
open Go.RowKit
section
variable {P : Program} {K : Kx} {B : Nat} {S : Wd} {E : Nat → Option AO} {R : Nat → Prop} {H H' : AHeap} {a : Act} {tm : Tr AV}

theorem wantedA_run {ops : Array Oper} {o : Oper} {b : Bool} {f : Nat → Option AV} (ht : ∀ d x, tm.get d = some x → (∃ j oj w, o.guard = some (j, w) ∧ ops[j]? = some oj ∧ oj.dst = some d) → f d = some x) (hT : TmRel S f a.tmps) (he : wantedA ops tm o = some b) : Region.wanted o (yielded ops a.tmps) = b := by
  unfold wantedA at he
  unfold Region.wanted
  cases hg : o.guard with
  | none => rw [hg] at he; cases he; rfl
  | some jw =>
    obtain ⟨j, want⟩ := jw
    rw [hg] at he
    simp only at he ⊢
    cases hj : ops[j]? with
    | none => rw [hj] at he; cases he; simp [yielded, hj]
    | some oj =>
      rw [hj] at he
      simp only at he
      cases hd : oj.dst with
      | none => rw [hd] at he; cases he; simp [yielded, hj, hd]
      | some d =>
        rw [hd] at he
        simp only [ob_eq, Option.some.injEq] at he
        obtain ⟨v, hv, rfl⟩ := he
        obtain ⟨h1, h2⟩ := hT d v (ht d v hv ⟨j, oj, want, hg, hj, hd⟩)
        have e1 : a.tmps[d]? = some (a.tmps.getD d undef) := by simp [h1]
        generalize a.tmps.getD d undef = u at h2 e1
        cases h2 with
        | bool b => simp [yielded, hj, hd, e1, boolIs]
        | _ => simp [yielded, hj, hd, e1, boolIs]
theorem TmRel.put {f g : Nat → Option AV} {dst : Option Tmp} {v : AV} {v' : Value} (ht : TmRel S f a.tmps) (hv : VRel S v v') (hg : ∀ k y, g k = some y → (dst = some k ∧ y = v ∧ k < a.tmps.size) ∨ (dst ≠ some k ∧ f k = some y)) : TmRel S g (a.put dst v').tmps := by
  intro d y hy
  rcases hg d y hy with ⟨rfl, rfl, h3⟩ | ⟨h1, h2⟩
  · refine ⟨by simpa [Act.put] using h3, ?_⟩
    simp [Act.put, h3]
    exact hv
  · obtain ⟨g1, g2⟩ := ht d y h2
    cases dst with
    | none => exact ⟨g1, g2⟩
    | some k =>
      refine ⟨by simpa [Act.put] using g1, ?_⟩
      have hne : k ≠ d := fun e => h1 (by rw [e])
      have e : ((a.put (some k) v').tmps).getD d undef = a.tmps.getD d undef := by
        simp [Act.put, Array.getD_eq_getD_getElem?, Array.getElem?_setIfInBounds_ne hne]
      rw [e]; exact g2
theorem put_size {dst : Option Tmp} {v : Value} : (a.put dst v).tmps.size = a.tmps.size := by
  cases dst <;> simp [Act.put]
theorem put_defers {dst : Option Tmp} {v : Value} : (a.put dst v).defers = a.defers := by
  cases dst <;> simp [Act.put]
theorem putA_rel {nt : Nat} {dst : Option Tmp} {v : AV} {v' : Value} {tm' : Tr AV} (ht : TmRel S tm.get a.tmps) (hn : a.tmps.size = nt) (hv : VRel S v v') (he : putA nt tm dst v = some tm') : TmRel S tm'.get (a.put dst v').tmps := by
  refine ht.put hv fun k y hy => ?_
  cases dst with
  | none => cases he; exact .inr ⟨by simp, hy⟩
  | some d =>
    simp only [putA, chk_eq, Option.some.injEq] at he
    obtain ⟨h1, rfl⟩ := he
    rw [Tr.get_set] at hy
    by_cases e : k = d
    · subst e; rw [if_pos rfl] at hy; cases hy; exact .inl ⟨rfl, rfl, by rw [hn]; exact Nat.le_of_ble_eq_true h1⟩
    · rw [if_neg e] at hy; exact .inr ⟨fun x => e (by cases x; rfl), hy⟩

theorem Behind.refl (h : Rel P.globals.size B S) (hH : At E R H S) : Behind P B E R S H S := ⟨h, Stp.refl _ _, hH⟩

theorem evOps_run (hK : KOK P K) {r : Option Nat} {ops : Array Oper} {nt : Nat} {Q : Exit → Act → World → Prop} : ∀ (l : List Oper) (i : Nat) (tm tm' : Tr AV) (H H' : AHeap) (S : Wd) (a : Act),
    ops.toList.drop i = l → Rel P.globals.size B S → At E R H S → TmRel S tm.get a.tmps → a.tmps.size = nt → evOps P K nt ops l tm H = some (tm', H') →
    (∀ a' S', Behind P B E R S H' S' → TmRel S' tm'.get a'.tmps → a'.tmps.size = nt → a'.defers = a.defers → Q .normal a' S'.w) →
    wpOpsIn (Fw r) 0 P ops Q (List.range' i l.length) a S.w := by
  intro l
  induction l with
  | nil =>
    intro i tm tm' H H' S a _ h hH ht hn he hQ
    cases he
    exact hQ a S (.refl h hH) ht hn rfl
  | cons o l ih =>
    intro i tm tm' H H' S a hl h hH ht hn he hQ
    have ho : ops[i]? = some o := by
      rw [← Array.getElem?_toList]
      have := congrArg (fun x => x[0]?) hl
      simpa using this
    have hl' : ops.toList.drop (i + 1) = l := by
      have := congrArg (List.drop 1) hl
      simpa [Nat.add_comm] using this
    have hO : ∀ x ∈ o.op.operands.toList, ORel P S tm a x := fun x _ => orel_of h ht x
    simp only [evOps, ob_eq] at he
    obtain ⟨b, hb, he⟩ := he
    have hw := wantedA_run (f := tm.get) (fun d x h _ => h) ht hb
    simp only [List.length_cons, List.range'_succ, wpOpsIn, ho]
    cases b with
    | true =>
      rw [if_pos hw]
      simp only [ob_eq] at he
      obtain ⟨⟨v, H1⟩, hop, tm1, hp, he⟩ := he
      refine evOp_run hK h hH hO hop _ _ fun v' S' hv hb => ?_
      have ht' := putA_rel (ht.later hb.stp.later) hn hv hp
      exact ih (i + 1) tm1 tm' H1 H' S' (a.put o.dst v') hl' hb.rel hb.at_ ht' (by rw [put_size]; exact hn) he fun a' S'' hb' ht'' hn'' hd'' => hQ a' S'' (hb.trans hb') ht'' hn'' (by rw [hd'', put_defers])
    | false =>
      rw [if_neg (by rw [hw]; simp)]
      simp only [ob_eq] at he
      obtain ⟨tm1, hp, he⟩ := he
      have ht' := putA_rel ht hn (.tup _ [] .nil) hp
      exact ⟨fun _ _ => trivial, ih (i + 1) tm1 tm' H H' S (a.put o.dst undef) hl' h hH ht' (by rw [put_size]; exact hn) he fun a' S'' hb' ht'' hn'' hd'' => hQ a' S'' hb' ht'' hn'' (by rw [hd'', put_defers])⟩

theorem region_run (hK : KOK P K) {ro : Option Nat} {id nt : Nat} {ops : Array Oper} {s : AS} {tm' : Tr AV} {H' : AHeap} (he : evOps P K nt ops ops.toList s.tm s.H = some (tm', H')) :
    CodeOK P ro nt (.region id ops false) s .normal ⟨tm', H', s.df⟩ := by
  intro B E R S a r h hH ht hn hd _
  refine wpIn_region ?_
  have hr : List.range ops.size = List.range' 0 ops.toList.length := by rw [List.range_eq_range', Array.length_toList]
  rw [hr]
  exact evOps_run hK _ 0 _ _ _ _ S a (by simp) h hH ht hn he fun a' S' hb ht' hn' hd' => ⟨rfl, S', rfl, hb, ht', hn', by rw [hd']; exact hd.later hb.stp.later⟩
end
end Go.Ev
