/- PART OF A PROOF: an evaluator over the model (its own text), and that it is sound: what it reckons, the machine does. No condition. -/
import Derived.Test.YtcbdaloghdidfabGreatDoorEvD5
namespace Go.Ev
open Go.RowKit
section
variable {P : Program} {ops : Array Oper} {K : Kx} {nt base : Nat} {l : List Item} {T : List TE} {s0 : DS}
variable {B : Nat} {E0 : Nat → Option AO} {R0 : Nat → Prop} {S0 S : Wd} {a a0 : Act}

/-- What has been listed. -/
noncomputable def lD (listed : Array Bool) : Nat → Bool := fun i => listed.getD i false
theorem jd_congr {D D' : Nat → Bool} {n : Nat} (h : ∀ i, i < n → D i = D' i) (hT : ∀ e ∈ T, e.i < n) (hJ : Jd P B E0 R0 S0 nt n base T s0 a0 D a S) : Jd P B E0 R0 S0 nt n base T s0 a0 D' a S := by
  have hf : fD T D = fD T D' := List.filter_congr fun e he => h _ (hT e he)
  refine ⟨hJ.rel, hJ.stp, ?_, by rw [← hf]; exact hJ.tm, hJ.nt, hJ.df⟩
  rw [← hf]
  refine hJ.at_.congr (fun x => ?_) fun x hx => ?_
  · unfold ED
    by_cases hx : base ≤ x ∧ x < base + n
    · rw [if_pos hx, if_pos hx, h _ (by omega)]
    · rw [if_neg hx, if_neg hx]
  · rcases hx with hx | ⟨i, hi, hd, rfl⟩
    · exact .inl hx
    · exact .inr ⟨i, hi, by rw [h i hi]; exact hd, rfl⟩
theorem all_ready (w : Wk P K nt ops base l T s0) {listed : Array Bool} (hsz : listed.size = ops.size) (hr : Region.ready .any ops listed = []) : ∀ e ∈ T, lD listed e.i = true := by
  have key : ∀ (n : Nat) (T1 T2 : List TE) (e : TE), T1.length ≤ n → T = T1 ++ e :: T2 → lD listed e.i = true := by
    intro n
    induction n with
    | zero =>
      intro T1 T2 e hl hs
      have : T1 = [] := List.length_eq_zero_iff.1 (by omega)
      subst this
      cases hd : lD listed e.i with
      | true => rfl
      | false =>
        obtain ⟨hop, hlt⟩ := i_lt w (show e ∈ T by rw [hs]; simp)
        have : e.i ∈ Region.ready .any ops listed := mem_ready.2 ⟨by
          have hlt' : e.i < listed.size := by omega
          simp only [lD, Array.getD_eq_getD_getElem?, Array.getElem?_eq_getElem hlt', Option.getD_some] at hd ⊢; exact hd, e.o, hop, fun x hx hb => by
          obtain ⟨_, p, hp, _⟩ := w.plan.edge _ _ _ (w.split hs) x hx hb
          cases hp⟩
        rw [hr] at this; cases this
    | succ n ih =>
      intro T1 T2 e hl hs
      cases hd : lD listed e.i with
      | true => rfl
      | false =>
        obtain ⟨hop, hlt⟩ := i_lt w (show e ∈ T by rw [hs]; simp)
        have : e.i ∈ Region.ready .any ops listed := mem_ready.2 ⟨by
          have hlt' : e.i < listed.size := by omega
          simp only [lD, Array.getD_eq_getD_getElem?, Array.getElem?_eq_getElem hlt', Option.getD_some] at hd ⊢; exact hd, e.o, hop, fun x hx hb => by
          obtain ⟨_, p, hp, hpi⟩ := w.plan.edge _ _ _ (w.split hs) x hx hb
          obtain ⟨q, hq, rfl⟩ := List.mem_map.1 hp
          obtain ⟨A, C, hA⟩ := List.append_of_mem hq
          have := ih A (C ++ e :: T2) q (by rw [hA] at hl; simp at hl; omega) (by rw [hs, hA]; simp)
          have hpi : q.i = x.on := hpi
          rw [← hpi]
          exact this⟩
        rw [hr] at this; cases this
  intro e he
  obtain ⟨T1, T2, hs⟩ := List.append_of_mem he
  exact key T1.length T1 T2 e (Nat.le_refl _) hs

/-- How many are not listed. -/
noncomputable def left (n : Nat) (listed : Array Bool) : Nat := ((List.range n).filter fun i => !lD listed i).length
theorem left_less {n i : Nat} {listed : Array Bool} (hsz : listed.size = n) (hi : i < n) (hd : lD listed i = false) : left n (listed.setIfInBounds i true) < left n listed := by
  unfold left
  rw [← List.countP_eq_length_filter, ← List.countP_eq_length_filter]
  have key : ∀ L : List Nat, L.countP (fun x => !lD (listed.setIfInBounds i true) x) + (if i ∈ L then 1 else 0) ≤ L.countP fun x => !lD listed x := by
    intro L
    induction L with
    | nil => simp
    | cons x L ih =>
      by_cases hx : x = i
      · subst hx
        have h1 : lD (listed.setIfInBounds x true) x = true := by
          have : x < listed.size := by omega
          simp [lD, this]
        rw [List.countP_cons_of_neg (by simp [h1]), List.countP_cons_of_pos (by simp [hd])]
        simp only [List.mem_cons, true_or, if_true]
        have : L.countP (fun y => !lD (listed.setIfInBounds x true) y) ≤ L.countP fun y => !lD listed y := by
          by_cases hm : x ∈ L
          · rw [if_pos hm] at ih; omega
          · rw [if_neg hm] at ih; omega
        omega
      · have h1 : lD (listed.setIfInBounds i true) x = lD listed x := by
          simp [lD, Array.getD_eq_getD_getElem?, Array.getElem?_setIfInBounds_ne (Ne.symm hx)]
        have hm : (i ∈ x :: L) ↔ i ∈ L := by simp [Ne.symm hx]
        by_cases hp : lD listed x = true
        · rw [List.countP_cons_of_neg (by simp [h1, hp]), List.countP_cons_of_neg (by simp [hp])]
          simp only [hm]; exact ih
        · rw [List.countP_cons_of_pos (by simp [h1]; simpa using hp), List.countP_cons_of_pos (by simpa using hp)]
          simp only [hm]; omega
  have := key (List.range n)
  rw [if_pos (List.mem_range.2 hi)] at this
  omega

theorem any_run (hK : KOK P K) (w : Wk P K nt ops base l T s0) (hzF : s0.F = 0) (hz : s0.as = []) (hR0 : ∀ x, R0 x → x < base) {r : Option Nat} {Q : Exit → Act → World → Prop}
    (hQ : ∀ a S (D : Nat → Bool), (∀ e ∈ T, D e.i = true) → (∀ i, i < ops.size → D i = true) → Jd P B E0 R0 S0 nt ops.size base T s0 a0 D a S → Q .normal a S.w) :
    ∀ (fuel : Nat) (listed : Array Bool) (a : Act) (S : Wd), left ops.size listed ≤ fuel → listed.size = ops.size → Clo T (lD listed) → Jd P B E0 R0 S0 nt ops.size base T s0 a0 (lD listed) a S → wpAnyIn (Fw r) 0 P .any ops Q fuel listed a S.w := by
  have hTn : ∀ e ∈ T, e.i < ops.size := fun e he => (i_lt w he).2
  have hfin : ∀ (listed : Array Bool) (a : Act) (S : Wd), listed.size = ops.size → Jd P B E0 R0 S0 nt ops.size base T s0 a0 (lD listed) a S → Region.ready .any ops listed = [] → Q .normal a S.w := by
    intro listed a S hsz hJ hr
    have hall := all_ready w hsz hr
    refine hQ a S _ hall (fun i hi => ?_) hJ
    obtain ⟨it, hit, rfl⟩ := w.plan.all i hi
    rw [← w.map] at hit
    obtain ⟨e, he, rfl⟩ := List.mem_map.1 hit
    exact hall e he
  intro fuel
  induction fuel with
  | zero =>
    intro listed a S hl hsz hC hJ
    have hnone : Region.ready .any ops listed = [] := by
      cases hr : Region.ready .any ops listed with
      | nil => rfl
      | cons i rs =>
        have hi : i ∈ Region.ready .any ops listed := by rw [hr]; exact .head _
        obtain ⟨h1, o, ho, _⟩ := mem_ready.1 hi
        have hlt : i < ops.size := (Array.getElem?_eq_some_iff.1 ho).1
        have hd : lD listed i = false := by
          have hlt' : i < listed.size := by omega
          simp only [lD, Array.getD_eq_getD_getElem?, Array.getElem?_eq_getElem hlt', Option.getD_some] at h1 ⊢; exact h1
        have := left_less hsz hlt hd
        omega
    exact ⟨hnone, hfin listed a S hsz hJ hnone⟩
  | succ fuel ih =>
    intro listed a S hl hsz hC hJ
    refine ⟨hfin listed a S hsz hJ, fun i hi => ?_⟩
    obtain ⟨h1, o, ho, hall⟩ := mem_ready.1 hi
    have hlt : i < ops.size := (Array.getElem?_eq_some_iff.1 ho).1
    have hd : lD listed i = false := by
      have hlt' : i < listed.size := by omega
      simp only [lD, Array.getD_eq_getD_getElem?, Array.getElem?_eq_getElem hlt', Option.getD_some] at h1 ⊢; exact h1
    obtain ⟨it, hit, hii⟩ := w.plan.all i hlt
    rw [← w.map] at hit
    obtain ⟨e, he, hee⟩ := List.mem_map.1 hit
    have hei : e.i = i := by rw [← hii, ← hee]; rfl
    subst hei
    obtain ⟨T1, T2, hs⟩ := List.append_of_mem he
    have heo : o = e.o := by
      have := (i_lt w he).1
      have ho : ops[e.i]? = some o := ho
      rw [this] at ho
      exact (Option.some.inj ho).symm
    subst heo
    have hr : Rdy (lD listed) e := fun x hx hb => hall x hx hb
    have heq : ∀ j, j < ops.size → addD (lD listed) e.i j = lD (listed.setIfInBounds e.i true) j := by
      intro j hj
      by_cases hje : j = e.i
      · subst hje
        have : e.i < listed.size := by omega
        simp [addD, lD, this]
      · have : Nat.beq j e.i = false := by
          cases hb : Nat.beq j e.i with
          | false => rfl
          | true => exact absurd (Nat.eq_of_beq_eq_true hb) hje
        simp [addD, lD, this, Array.getD_eq_getD_getElem?, Array.getElem?_setIfInBounds_ne (Ne.symm hje)]
    refine step_run hK w hs hC hr hd hzF hz hR0 hJ fun a' S' hJ' => ?_
    refine ih _ a' S' (by have := left_less hsz hlt hd; omega) (by simpa using hsz) ?_ (jd_congr heq hTn hJ')
    have hC' := clo_add w hs hC hr
    intro q hq hqD j hj
    have hjlt : j < ops.size := by
      obtain ⟨A, C, hA⟩ := List.append_of_mem hq
      obtain ⟨q', hq', rfl⟩ := bm_before w A C q hA j hj
      exact hTn q' (by rw [hA]; exact List.mem_append_left _ hq')
    rw [← heq j hjlt]
    exact hC' q hq (by rw [heq _ (hTn q hq)]; exact hqD) j hj
theorem onlyRW_eq : ∀ L : List TE, onlyRW L = L.filter isRW := by
  intro L
  induction L with
  | nil => rfl
  | cons e L ih =>
    simp only [onlyRW, cond_eq, ih]
    by_cases h : isRW e = true
    · rw [if_pos h, List.filter_cons_of_pos h]
    · rw [if_neg h, List.filter_cons_of_neg h]
theorem allD_spec {q : TE} : ∀ {L : List TE}, allD P base q L = true → ∀ p ∈ L, pairD P base p q = true := by
  intro L
  induction L with
  | nil => intro _ p hp; cases hp
  | cons x L ih =>
    intro h p hp
    simp only [allD, Bool.and_eq_true] at h
    rcases List.mem_cons.1 hp with rfl | hp
    · exact h.1
    · exact ih h.2 p hp
theorem pairsD_spec : ∀ {L : List TE}, pairsD P base L = true → L.Pairwise fun q p => pairD P base p q = true := by
  intro L
  induction L with
  | nil => intro _; exact .nil
  | cons q L ih =>
    intro h
    simp only [pairsD, Bool.and_eq_true] at h
    exact .cons (allD_spec h.1) (ih h.2)

theorem draw_run (hm : P.follows .mixedOrders = true) (hK : KOK P K) : DrawOK P K := by
  intro ro id nt ops s s' he B E R S a r h hH ht hn hd _
  simp only [evDraw, ob_eq, chk_eq, Option.some.injEq] at he
  obtain ⟨l, hl, ⟨T', e⟩, hp, hdyn, rfl⟩ := he
  obtain ⟨T, rfl, htrc, hmap, rfl⟩ := passA_spec hp
  simp only [List.append_nil] at hdyn
  have w : Wk P K nt ops s.H.next l T ⟨s.tm, ⟨s.H.next + ops.size, s.H.t⟩, 0, []⟩ := by
    refine ⟨planS_spec hl, htrc, hmap, ?_⟩
    have := pairsD_spec hdyn
    rw [onlyRW_eq, List.filter_reverse, List.pairwise_reverse, List.pairwise_filter] at this
    exact this
  have hE : ∀ b o, E b = some o → b < s.H.next := fun b o hb => hH.al b (h.dom b o (by rw [hH.g, hH.sep b o hb]; exact hb))
  have hf0 : fD T (fun _ => false) = [] := by unfold fD; simp
  refine wpIn_region_any hm ?_
  have hl0 : ∀ i, lD (Array.replicate ops.size false) i = false := by
    intro i
    simp only [lD, Array.getD_eq_getD_getElem?]
    by_cases hi : i < ops.size
    · simp [hi]
    · simp [hi]
  have hJ : Jd P B E R S nt ops.size s.H.next T ⟨s.tm, ⟨s.H.next + ops.size, s.H.t⟩, 0, []⟩ a (lD (Array.replicate ops.size false)) a (S.drewN 1) := by
    have hf1 : fD T (lD (Array.replicate ops.size false)) = [] := by unfold fD; simp [hl0]
    have a0 := hH.drewN 1
    refine ⟨rel_drewN h 1, stp_drewN B S 1, ?_, ?_, hn, rfl⟩
    · rw [hf1]
      refine ⟨fun b => ?_, fun b o hb => ?_, fun b hb => ?_, fun b hb => ?_⟩
      · rw [a0.g b]
        show _ = match s.H.t.get b with | some o => some o | none => ED E s.H.next ops.size T _ 0 b
        cases hg : s.H.t.get b with
        | some o => rfl
        | none =>
          simp only
          by_cases hin : s.H.next ≤ b ∧ b < s.H.next + ops.size
          · obtain ⟨j, rfl⟩ : ∃ j, b = s.H.next + j := ⟨b - s.H.next, by omega⟩
            rw [ed_in (by omega), if_neg (by simp [hl0])]
            cases hEb : E (s.H.next + j) with
            | none => rfl
            | some o => have := hE _ _ hEb; omega
          · rw [ed_out hin]
      · by_cases hin : s.H.next ≤ b ∧ b < s.H.next + ops.size
        · obtain ⟨j, rfl⟩ : ∃ j, b = s.H.next + j := ⟨b - s.H.next, by omega⟩
          rw [ed_in (by omega), if_neg (by simp [hl0])] at hb
          cases hb
        · rw [ed_out hin] at hb; exact a0.sep b o hb
      · have := a0.al b hb
        show b < s.H.next + ops.size
        omega
      · rcases hb with hb | ⟨i, hi, _, rfl⟩
        · have := a0.r b hb
          exact ⟨by show b < s.H.next + ops.size; omega, this.2⟩
        · refine ⟨by show s.H.next + i < s.H.next + ops.size; omega, fun hal => ?_⟩
          have := a0.al _ hal
          omega
    · rw [hf1]; exact ht.later (stp_drewN B S 1).later
  refine any_run hK w rfl rfl (fun x hx => (hH.r x hx).1) ?_ ops.size _ a (S.drewN 1) ?_ (by simp) (fun q hq hqD => by rw [hl0] at hqD; cases hqD) hJ
  · intro a' S' D hall halln hJ'
    have hfT : fD T D = T := List.filter_eq_self.2 hall
    have hat := hJ'.at_
    rw [hfT] at hat
    have htm := hJ'.tm
    rw [hfT] at htm
    have hcov : ∀ j, j < ops.size → (2 ^ ops.size - 1).testBit j = true := fun j hj => by rw [Nat.testBit_two_pow_sub_one]; simpa using hj
    obtain ⟨E', hat', hE'⟩ := hat.lay (base := s.H.next) (m := mdiff (2 ^ ops.size - 1) (st ⟨s.tm, ⟨s.H.next + ops.size, s.H.t⟩, 0, []⟩ T).F) (as := (st ⟨s.tm, ⟨s.H.next + ops.size, s.H.t⟩, 0, []⟩ T).as) (by
      intro j ao hmem hb
      rcases (st_as _ j ao T).1 hmem with h | ⟨q, hq, hk, rfl⟩
      · cases h
      · rw [mdiff_bit] at hb
        simp only [Bool.and_eq_true, Bool.not_eq_true'] at hb
        have hlt := (i_lt w hq).2
        have hed : ED E s.H.next ops.size T D (st ⟨s.tm, ⟨s.H.next + ops.size, s.H.t⟩, 0, []⟩ T).F (s.H.next + q.i) = some ao := by
          rw [ed_in hlt, if_pos ⟨hall q hq, hb.2⟩, aoOf_at w.nodup hq, hk]
        rw [hat.g, hat.sep _ _ hed, hed])
    refine ⟨rfl, S', rfl, ⟨hJ'.rel, hJ'.stp, hat'.congr (fun x => ?_) fun x hx => .inl hx⟩, htm, hJ'.nt, by rw [hJ'.df]; exact hd.later hJ'.stp.later⟩
    by_cases hin : s.H.next ≤ x ∧ x < s.H.next + ops.size
    · obtain ⟨j, rfl⟩ : ∃ j, x = s.H.next + j := ⟨x - s.H.next, by omega⟩
      have hEn : E (s.H.next + j) = none := by
        cases hEb : E (s.H.next + j) with
        | none => rfl
        | some o => have := hE _ _ hEb; omega
      rw [hEn]
      by_cases hlay : ∃ j' ao, (j', ao) ∈ (st ⟨s.tm, ⟨s.H.next + ops.size, s.H.t⟩, 0, []⟩ T).as ∧ (mdiff (2 ^ ops.size - 1) (st ⟨s.tm, ⟨s.H.next + ops.size, s.H.t⟩, 0, []⟩ T).F).testBit j' = true ∧ s.H.next + j = s.H.next + j'
      · exact (hE' _).1 hlay
      · rw [(hE' _).2 fun j' ao h5 h6 h7 => hlay ⟨j', ao, h5, h6, h7⟩, ed_in (by omega)]
        by_cases hc : D j = true ∧ (st ⟨s.tm, ⟨s.H.next + ops.size, s.H.t⟩, 0, []⟩ T).F.testBit j = false
        · rw [if_pos hc]
          cases hao : aoOf T j with
          | none => rfl
          | some ao =>
            obtain ⟨q, hq, hqk, hqi⟩ := aoOf_mem hao
            refine absurd ⟨j, ao, (st_as _ j ao T).2 (.inr ⟨q, hq, hqk, hqi⟩), ?_, rfl⟩ hlay
            rw [mdiff_bit, hcov j (by omega), hc.2]; rfl
        · rw [if_neg hc]
    · rw [(hE' _).2 ?_, ed_out hin]
      intro j' ao h5 h6 h7
      rcases (st_as _ j' ao T).1 h5 with h | ⟨q, hq, _, rfl⟩
      · cases h
      · have := (i_lt w hq).2
        omega
  · unfold left
    have := List.length_filter_le (fun i => !lD (Array.replicate ops.size false) i) (List.range ops.size)
    simpa using this
end
end Go.Ev
