/- PART OF A PROOF: an evaluator over the model (its own text), and that it is sound: what it reckons, the machine does. No condition. -/
import Derived.Test.YtcbdaloghdidfabGreatDoorEvD4
namespace Go.Ev
open Go.RowKit

noncomputable def ED (E0 : Nat → Option AO) (base n : Nat) (T : List TE) (D : Nat → Bool) (F : Nat) (x : Nat) : Option AO :=
  if base ≤ x ∧ x < base + n then (if D (x - base) = true ∧ F.testBit (x - base) = false then aoOf T (x - base) else none) else E0 x
def RD (R0 : Nat → Prop) (base n : Nat) (D : Nat → Bool) (x : Nat) : Prop := R0 x ∨ ∃ i, i < n ∧ D i = false ∧ x = base + i
structure Jd (P : Program) (B : Nat) (E0 : Nat → Option AO) (R0 : Nat → Prop) (S0 : Wd) (nt n base : Nat) (T : List TE) (s0 : DS) (a0 : Act) (D : Nat → Bool) (a : Act) (S : Wd) : Prop where
  rel : Rel P.globals.size B S
  stp : Stp B S0 S
  at_ : At (ED E0 base n T D (st s0 (fD T D)).F) (RD R0 base n D) (st s0 (fD T D)).H S
  tm : TmRel S (st s0 (fD T D)).tm.get a.tmps
  nt : a.tmps.size = nt
  df : a.defers = a0.defers

section
variable {P : Program} {ops : Array Oper} {K : Kx} {nt base : Nat} {l : List Item} {T : List TE} {s0 : DS} {D : Nat → Bool} {T1 T2 : List TE} {e : TE}
variable {B : Nat} {E0 : Nat → Option AO} {R0 : Nat → Prop} {S0 S : Wd} {a a0 : Act}

theorem ed_in {F j : Nat} (hj : j < ops.size) : ED E0 base ops.size T D F (base + j) = if D j = true ∧ F.testBit j = false then aoOf T j else none := by
  unfold ED
  rw [if_pos (by omega), Nat.add_sub_cancel_left]
theorem ed_out {F x : Nat} (hx : ¬ (base ≤ x ∧ x < base + ops.size)) : ED E0 base ops.size T D F x = E0 x := by
  unfold ED
  rw [if_neg hx]
theorem i_lt (w : Wk P K nt ops base l T s0) (he : e ∈ T) : ops[e.i]? = some e.o ∧ e.i < ops.size := by
  have := w.plan.at_ e.item (by rw [← w.map]; exact List.mem_map_of_mem he)
  exact ⟨this, (Array.getElem?_eq_some_iff.1 this).1⟩
theorem F_bit (hz : s0.F = 0) {j : Nat} (h : (st s0 (fD T D)).F.testBit j = true) : ∃ q ∈ T, D q.i = true ∧ isWk q = true ∧ q.bm.testBit j = true := by
  rcases (st_F s0 j (fD T D)).1 h with h | ⟨q, hq, h1, h2⟩
  · rw [hz] at h; simp at h
  · obtain ⟨q1, q2⟩ := List.mem_filter.1 hq
    exact ⟨q, q1, q2, h1, h2⟩
theorem lay_ok (w : Wk P K nt ops base l T s0) (hs : T = T1 ++ e :: T2) (hC : Clo T D) (hr : Rdy D e) (hz : s0.as = []) (hJ : Jd P B E0 R0 S0 nt ops.size base T s0 a0 D a S) :
    ∀ j ao, (j, ao) ∈ (st s0 T1).as → (mdiff e.bm (st s0 (fD T D)).F).testBit j = true → S.H.g (base + j) = some ao := by
  intro j ao hm hb
  rcases (st_as s0 j ao T1).1 hm with h | ⟨q, hq, hk, rfl⟩
  · rw [hz] at h; cases h
  · have hqT : q ∈ T := by rw [hs]; exact List.mem_append_left _ hq
    rw [mdiff_bit] at hb
    simp only [Bool.and_eq_true, Bool.not_eq_true'] at hb
    have hD := bm_in w hs hC hr _ hb.1
    have hed : ED E0 base ops.size T D (st s0 (fD T D)).F (base + q.i) = some ao := by
      rw [ed_in (i_lt w hqT).2, if_pos ⟨hD, hb.2⟩, aoOf_at w.nodup hqT, hk]
    rw [hJ.at_.g, hJ.at_.sep _ _ hed, hed]
theorem ed_add_not (w : Wk P K nt ops base l T s0) (he : e ∈ T) (hk : ∀ ao, e.k ≠ .a ao) {F : Nat} (x : Nat) : ED E0 base ops.size T D F x = ED E0 base ops.size T (addD D e.i) F x := by
  by_cases hx : base ≤ x ∧ x < base + ops.size
  · obtain ⟨j, rfl⟩ : ∃ j, x = base + j := ⟨x - base, by omega⟩
    rw [ed_in (by omega), ed_in (by omega)]
    by_cases hj : j = e.i
    · subst hj
      have : aoOf T e.i = none := by
        rw [aoOf_at w.nodup he]
        cases hek : e.k with
        | a ao => exact absurd hek (hk ao)
        | _ => rfl
      rw [this]; simp
    · have : Nat.beq j e.i = false := by
        cases hb : Nat.beq j e.i with
        | false => rfl
        | true => exact absurd (Nat.eq_of_beq_eq_true hb) hj
      simp [addD, this]
  · rw [ed_out hx, ed_out hx]
theorem rd_add {n i : Nat} (x : Nat) (h : RD R0 base n (addD D i) x) : RD R0 base n D x := by
  rcases h with h | ⟨j, hj, hd, rfl⟩
  · exact .inl h
  · refine .inr ⟨j, hj, ?_, rfl⟩
    simp only [addD, Bool.or_eq_false_iff] at hd
    exact hd.1

/-- One operation more is done. -/
theorem step_run (hK : KOK P K) (w : Wk P K nt ops base l T s0) (hs : T = T1 ++ e :: T2) (hC : Clo T D) (hr : Rdy D e) (hne : D e.i = false) (hzF : s0.F = 0) (hz : s0.as = []) (hR0 : ∀ x, R0 x → x < base)
    (hJ : Jd P B E0 R0 S0 nt ops.size base T s0 a0 D a S) {r : Option Nat} {Q : Exit → Act → World → Prop} {next : Act → World → Prop}
    (hnext : ∀ a' S', Jd P B E0 R0 S0 nt ops.size base T s0 a0 (addD D e.i) a' S' → next a' S'.w) : wpOpIn (Fw r) 0 P ops Q e.i next a S.w := by
  have heT : e ∈ T := by rw [hs]; simp
  obtain ⟨hop, hlt⟩ := i_lt w heT
  obtain ⟨hte, hdst⟩ := w.at_ hs
  obtain ⟨htm, hc⟩ := teOf_cases hte
  have hag : ∀ x, x ∈ looksA ops e.o → (st s0 (fD T D)).tm.get x = e.tm.get x := fun x hx => tm_agree w hs hC hr hne hx
  have hO : ∀ x ∈ e.o.op.operands.toList, ORel P S e.tm a x := by
    intro x hx v hv
    cases x with
    | tmp t => exact (hJ.tm t v (by rw [hag t (looks_op hx)]; exact hv)).2
    | const c => exact orel_of (tm := .nil) (a := a) hJ.rel (fun d y hy => by cases hy) (.const c) v hv
    | global g => exact orel_of (tm := .nil) (a := a) hJ.rel (fun d y hy => by cases hy) (.global g) v hv
    | func f => exact orel_of (tm := .nil) (a := a) hJ.rel (fun d y hy => by cases hy) (.func f) v hv
  have hwant : ∀ b, wantedA ops e.tm e.o = some b → Region.wanted e.o (yielded ops a.tmps) = b := fun b hb =>
    wantedA_run (f := (st s0 (fD T D)).tm.get) (fun d x hx ⟨j, oj, wt, h1, h2, h3⟩ => by rw [hag d (looks_guard h1 h2 h3)]; exact hx) hJ.tm hb
  have tmr : ∀ S' v', Stp B S S' → VRel S' e.v v' → TmRel S' (st s0 (fD T (addD D e.i))).tm.get (a.put e.o.dst v').tmps := by
    intro S' v' sp hv
    refine (hJ.tm.later sp.later).put hv fun k y hy => ?_
    rw [tm_add w hs hne] at hy
    by_cases hd : e.o.dst = some k
    · rw [if_pos hd] at hy
      cases hy
      refine .inl ⟨hd, rfl, ?_⟩
      rw [hJ.nt]
      rw [hd] at hdst
      exact Nat.le_of_ble_eq_true hdst
    · rw [if_neg hd] at hy
      exact .inr ⟨hd, hy⟩
  unfold wpOpIn
  simp only [hop]
  have keep : (∀ ao, e.k ≠ .a ao) → isWk e = false → ∀ S' v', Stp B S S' → Rel P.globals.size B S' → At (ED E0 base ops.size T D (st s0 (fD T D)).F) (RD R0 base ops.size D) (st s0 (fD T D)).H S' → VRel S' e.v v' →
      Jd P B E0 R0 S0 nt ops.size base T s0 a0 (addD D e.i) (a.put e.o.dst v') S' := by
    intro hk hw S' v' sp hrel hat hv
    obtain ⟨h1, h2⟩ := hf_add_not w hs hne hw
    refine ⟨hrel, hJ.stp.trans sp, ?_, tmr S' v' sp hv, by rw [put_size]; exact hJ.nt, by rw [put_defers]; exact hJ.df⟩
    rw [h1, h2]
    exact hat.congr (ed_add_not w heT hk) rd_add
  rcases hc with ⟨hb, hk, hv⟩ | ⟨hb, hc⟩
  · rw [if_neg (by rw [hwant _ hb]; simp)]
    exact ⟨fun _ _ => trivial, hnext _ _ (keep (fun ao h => by rw [hk] at h; cases h) (by simp [isWk, hk]) S undef (Stp.refl _ _) hJ.rel hJ.at_ (by rw [hv]; exact .tup _ [] .nil))⟩
  · rw [if_pos (hwant _ hb)]
    rcases hc with ⟨hcl, hk, hev⟩ | ⟨hk, hev⟩ | ⟨ao, k, hk, hev, hv⟩ | ⟨H', hcl, hk, hev⟩
    · exact opP_run hJ.rel hJ.at_ hO hcl hev _ _ fun v' S' hv hb => hnext _ _ (keep (fun ao h => by rw [hk] at h; cases h) (by simp [isWk, hk]) S' v' hb.stp hb.rel hb.at_ hv)
    · obtain ⟨has, hev'⟩ := r_here w hs hC hr hne hk
      obtain ⟨E', hat', _⟩ := hJ.at_.lay (lay_ok w hs hC hr hz hJ)
      exact opR_run hJ.rel hJ.at_ hO hat' hev' _ _ fun v' S' hv hb => hnext _ _ (keep (fun ao h => by rw [hk] at h; cases h) (by simp [isWk, hk]) S' v' hb.stp hb.rel hb.at_ hv)
    · -- a new block
      have hz' : ¬ S.H.al (base + e.i) := (hJ.at_.r _ (.inr ⟨e.i, hlt, hne, rfl⟩)).2
      have hzlt := (hJ.at_.r (base + e.i) (.inr ⟨e.i, hlt, hne, rfl⟩)).1
      obtain ⟨h1, h2⟩ := hf_add_not w hs hne (by simp [isWk, hk])
      have hFe : (st s0 (fD T D)).F.testBit e.i = false := by
        cases hb : (st s0 (fD T D)).F.testBit e.i with
        | false => rfl
        | true =>
          obtain ⟨q, q1, q2, _, q4⟩ := F_bit hzF hb
          have := hC q q1 q2 _ q4
          rw [hne] at this; cases this
      have hat : ∀ obj, At (ED E0 base ops.size T (addD D e.i) (st s0 (fD T D)).F) (RD R0 base ops.size (addD D e.i)) (st s0 (fD T D)).H (S.new (base + e.i) ao obj) := by
        intro obj
        have hself : ED E0 base ops.size T (addD D e.i) (st s0 (fD T D)).F (base + e.i) = some ao := by
          rw [ed_in hlt, if_pos ⟨by simp [addD], hFe⟩, aoOf_at w.nodup heT, hk]
        have hoth : ∀ x, x ≠ base + e.i → ED E0 base ops.size T (addD D e.i) (st s0 (fD T D)).F x = ED E0 base ops.size T D (st s0 (fD T D)).F x := by
          intro x hx
          by_cases hin : base ≤ x ∧ x < base + ops.size
          · obtain ⟨j, rfl⟩ : ∃ j, x = base + j := ⟨x - base, by omega⟩
            have hj : j ≠ e.i := fun h => hx (by rw [h])
            have : Nat.beq j e.i = false := by
              cases hb : Nat.beq j e.i with
              | false => rfl
              | true => exact absurd (Nat.eq_of_beq_eq_true hb) hj
            rw [ed_in (by omega), ed_in (by omega)]
            simp [addD, this]
          · rw [ed_out hin, ed_out hin]
        have hnone : (st s0 (fD T D)).H.t.get (base + e.i) = none := by
          cases hg : (st s0 (fD T D)).H.t.get (base + e.i) with
          | none => rfl
          | some o => exact absurd (hJ.rel.dom _ _ (hJ.at_.get hg)) hz'
        refine ⟨fun x => ?_, fun x o hx => ?_, fun x hx => ?_, fun x hx => ?_⟩
        · by_cases hx : x = base + e.i
          · subst hx; rw [new_g_nx, hnone, hself]
          · rw [new_g _ hx, hoth x hx]; exact hJ.at_.g x
        · by_cases hx' : x = base + e.i
          · subst hx'; exact hnone
          · rw [hoth x hx'] at hx; exact hJ.at_.sep x o hx
        · rcases hx with rfl | hx
          · exact hzlt
          · exact hJ.at_.al x hx
        · refine ⟨(hJ.at_.r x (rd_add x hx)).1, fun hal => ?_⟩
          rcases hal with rfl | hal
          · rcases hx with hx | ⟨i, hi, hdi, hxi⟩
            · have := hR0 _ hx; omega
            · have : i = e.i := by omega
              subst this
              simp [addD] at hdi
          · exact (hJ.at_.r x (rd_add x hx)).2 hal
      refine opA_run hJ.rel hz' hO hat hev _ _ fun v' S' hv' hb => hnext _ _ ⟨hb.rel, hJ.stp.trans hb.stp, ?_, tmr S' v' hb.stp (by rw [hv]; exact hv'), by rw [put_size]; exact hJ.nt, by rw [put_defers]; exact hJ.df⟩
      rw [h1, h2]
      exact hb.at_
    · -- the heap
      obtain ⟨h1, h2, h3, h4⟩ := hf_add_w w hs hC hr hne hk
      rw [h3, h4] at hev
      obtain ⟨E', hat', hE'⟩ := hJ.at_.lay (lay_ok w hs hC hr hz hJ)
      refine evW_run hK hJ.rel hat' hO hev _ _ fun v' S' hv hb => hnext _ _ ⟨hb.rel, hJ.stp.trans hb.stp, ?_, tmr S' v' hb.stp hv, by rw [put_size]; exact hJ.nt, by rw [put_defers]; exact hJ.df⟩
      rw [h1, h2]
      refine hb.at_.congr (fun x => ?_) rd_add
      have hF' : ∀ j, (Nat.lor (st s0 (fD T D)).F e.bm).testBit j = ((st s0 (fD T D)).F.testBit j || e.bm.testBit j) := fun j => Nat.testBit_or ..
      by_cases hin : base ≤ x ∧ x < base + ops.size
      · obtain ⟨j, rfl⟩ : ∃ j, x = base + j := ⟨x - base, by omega⟩
        rw [ed_in (by omega), hF']
        by_cases hbm : e.bm.testBit j = true
        · rw [if_neg (by simp [hbm])]
          by_cases hlay : ∃ j' ao, (j', ao) ∈ (st s0 T1).as ∧ (mdiff e.bm (st s0 (fD T D)).F).testBit j' = true ∧ base + j = base + j'
          · exact (hE' _).1 hlay
          · rw [(hE' _).2 fun j' ao h5 h6 h7 => hlay ⟨j', ao, h5, h6, h7⟩, ed_in (by omega)]
            by_cases hc : D j = true ∧ (st s0 (fD T D)).F.testBit j = false
            · rw [if_pos hc]
              cases hao : aoOf T j with
              | none => rfl
              | some ao =>
                obtain ⟨q, hq, hqk, hqi⟩ := aoOf_mem hao
                obtain ⟨q', hq', hqi'⟩ := bm_before w T1 T2 e hs j hbm
                have hq'T : q' ∈ T := by rw [hs]; exact List.mem_append_left _ hq'
                have := w.uniq hq hq'T (hqi.trans hqi'.symm)
                subst this
                exact absurd ⟨j, ao, (st_as s0 j ao T1).2 (.inr ⟨q, hq', hqk, hqi⟩), by rw [mdiff_bit, hbm, hc.2]; rfl, rfl⟩ hlay
            · rw [if_neg hc]
        · have hno : ∀ j' ao, (j', ao) ∈ (st s0 T1).as → (mdiff e.bm (st s0 (fD T D)).F).testBit j' = true → base + j ≠ base + j' := by
            intro j' ao _ h6 h7
            have : j' = j := by omega
            subst this
            rw [mdiff_bit] at h6
            simp [hbm] at h6
          rw [(hE' _).2 hno, ed_add_not w heT (fun ao h => by rw [hk] at h; cases h), ed_in (by omega)]
          simp [hbm]
      · rw [ed_out hin]
        rw [(hE' _).2 ?_, ed_out hin]
        intro j' ao h5 h6 h7
        rcases (st_as s0 j' ao T1).1 h5 with h | ⟨q, hq, _, rfl⟩
        · rw [hz] at h; cases h
        · have := (i_lt w (show q ∈ T by rw [hs]; exact List.mem_append_left _ hq)).2
          omega
end
end Go.Ev
