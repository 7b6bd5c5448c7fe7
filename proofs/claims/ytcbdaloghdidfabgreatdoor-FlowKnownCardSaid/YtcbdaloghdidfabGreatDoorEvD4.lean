/- PART OF A PROOF: an evaluator over the model (its own text), and that it is sound: what it reckons, the machine does. No condition. -/
import Derived.Test.YtcbdaloghdidfabGreatDoorEvD3
import Derived.Test.YtcbdaloghdidfabGreatDoorEvEq
namespace Go.Ev
open Go.RowKit
section
variable {P : Program} {ops : Array Oper} {K : Kx} {nt base : Nat} {l : List Item} {T : List TE} {s0 : DS} {D : Nat → Bool} {T1 T2 : List TE} {e : TE}

theorem filter_split {α : Type} {p : α → Bool} : ∀ {L A C : List α} {x : α}, L.filter p = A ++ x :: C → ∃ L1 L2, L = L1 ++ x :: L2 ∧ L1.filter p = A ∧ L2.filter p = C := by
  intro L A C x h
  obtain ⟨L1, L2', h1, h2, h3⟩ := List.filter_eq_append_iff.1 h
  obtain ⟨L3, L4, h4, h5, h6, h7⟩ := List.filter_eq_cons_iff.1 h3
  refine ⟨L1 ++ L3, L4, by rw [h1, h4]; simp, ?_, h7⟩
  rw [List.filter_append, h2, List.filter_eq_nil_iff.2 (fun a ha => by simpa using h5 a ha), List.append_nil]
theorem hf_of (x : AHeap × Nat) (L : List TE) : hf x L = (L.filter isWk).foldl stepHF x := rfl
theorem sD_hf (D : Nat → Bool) : ((st s0 (fD T D)).H, (st s0 (fD T D)).F) = ((fD T D).filter isWk).foldl stepHF (s0.H, s0.F) := st_hf _ _

/-- Where an operation that works on the heap is next, the heap is as it was in the walk. -/
theorem w_here (w : Wk P K nt ops base l T s0) (hs : T = T1 ++ e :: T2) (hC : Clo T D) (hr : Rdy D e) (hne : D e.i = false) (hw : isWk e = true) :
    (fD T D).filter isWk = T1.filter isWk ∧ (T2.filter fun q => D q.i).filter isWk = [] := by
  obtain ⟨A, C, e1, e2, e3, e4⟩ := w_prefix w hC
  have hT : T.filter isWk = T1.filter isWk ++ e :: T2.filter isWk := by rw [hs, List.filter_append, List.filter_cons_of_pos hw]
  have hT1 : ∀ q ∈ T1.filter isWk, D q.i = true := fun q hq => by
    obtain ⟨hq1, hqw⟩ := List.mem_filter.1 hq
    have hqT : q ∈ T := by rw [hs]; exact List.mem_append_left _ hq1
    have heT : e ∈ T := by rw [hs]; simp
    exact bm_in w hs hC hr _ (pair_bit (w.before hs hq1).1 (.inl ⟨isWk_isW w hqT hqw, isWk_isW w heT hw⟩))
  have hT2 : ∀ q ∈ T2.filter isWk, D q.i = false := fun q hq => by
    obtain ⟨hq1, hqw⟩ := List.mem_filter.1 hq
    have hqT : q ∈ T := by rw [hs]; exact List.mem_append_right _ (.tail _ hq1)
    have heT : e ∈ T := by rw [hs]; simp
    cases hd : D q.i with
    | false => rfl
    | true =>
      have := hC q hqT hd e.i (pair_bit (w.after hs hq1).1 (.inl ⟨isWk_isW w heT hw, isWk_isW w hqT hqw⟩))
      rw [hne] at this; cases this
  refine ⟨?_, ?_⟩
  · have : (fD T D).filter isWk = (T.filter isWk).filter fun q => D q.i := by
      unfold fD; rw [List.filter_filter, List.filter_filter]; congr 1; funext e; exact Bool.and_comm _ _
    have f1 : (T1.filter isWk).filter (fun q => D q.i) = T1.filter isWk := List.filter_eq_self.2 hT1
    have f2 : (T2.filter isWk).filter (fun q => D q.i) = [] := List.filter_eq_nil_iff.2 fun q hq => by rw [hT2 q hq]; simp
    rw [this, hT, List.filter_append, List.filter_cons_of_neg (by simp [hne]), f1, f2, List.append_nil]
  · have : (T2.filter fun q => D q.i).filter isWk = (T2.filter isWk).filter fun q => D q.i := by
      rw [List.filter_filter, List.filter_filter]; congr 1; funext e; exact Bool.and_comm _ _
    rw [this]
    exact List.filter_eq_nil_iff.2 fun q hq => by rw [hT2 q hq]; simp

/-- What looks at memory reads the same, whatever has been done before. -/
theorem r_here (w : Wk P K nt ops base l T s0) (hs : T = T1 ++ e :: T2) (hC : Clo T D) (hr : Rdy D e) (hne : D e.i = false) {as : List (Nat × AO)} (hk : e.k = .r as) :
    as = (st s0 T1).as ∧ evR P e.tm (layA base (mdiff e.bm (st s0 (fD T D)).F) as (st s0 (fD T D)).H) e.o.op = some e.v := by
  obtain ⟨htm, hc⟩ := teOf_cases (w.at_ hs).1
  have hev : as = (st s0 T1).as ∧ evR P e.tm (layA base (mdiff e.bm (st s0 T1).F) (st s0 T1).as (st s0 T1).H) e.o.op = some e.v := by
    rcases hc with ⟨_, h, _⟩ | ⟨_, ⟨_, h, _⟩ | ⟨h, he⟩ | ⟨_, _, h, _⟩ | ⟨_, _, h, _⟩⟩ <;> rw [hk] at h <;> first | (cases h; done) | skip
    cases h
    exact ⟨rfl, he⟩
  obtain ⟨has, hev⟩ := hev
  refine ⟨has, ?_⟩
  obtain ⟨A, C, e1, e2, e3, e4⟩ := w_prefix w hC
  have hT : T.filter isWk = T1.filter isWk ++ T2.filter isWk := by rw [hs, List.filter_append, List.filter_cons_of_neg (by simp [isWk, hk])]
  have hD := sD_hf (s0 := s0) (T := T) D
  rw [e2] at hD
  have hrw : isRW e = true := by simp [isRW, hk]
  rw [hT] at e1
  have same1 : A = T1.filter isWk → evR P e.tm (layA base (mdiff e.bm (st s0 (fD T D)).F) as (st s0 (fD T D)).H) e.o.op = some e.v := by
    intro hA
    have h1 := st_hf T1 s0
    rw [hf_of, ← hA, ← hD] at h1
    have hH : (st s0 T1).H = (st s0 (fD T D)).H := congrArg Prod.fst h1
    have hF : (st s0 T1).F = (st s0 (fD T D)).F := congrArg Prod.snd h1
    rw [← hH, ← hF, has]; exact hev
  rcases List.append_eq_append_iff.1 e1 with ⟨X, hX1, hX2⟩ | ⟨X, hX1, hX2⟩
  · -- A = W1 ++ X
    rcases List.eq_nil_or_concat X with rfl | ⟨X', q, rfl⟩
    · exact same1 (by rw [hX1]; simp)
    · have hX2 : T2.filter isWk = X' ++ q :: C := by rw [hX2]; simp
      obtain ⟨L1, L2, h1, h2, h3⟩ := filter_split hX2
      have hqT2 : q ∈ T2 := by rw [h1]; simp
      have hqw : isWk q = true := by
        have : q ∈ T2.filter isWk := by rw [hX2]; simp
        exact (List.mem_filter.1 this).2
      have hqD : D q.i = true := e3 q (by rw [hX1]; simp)
      have hsq : T = (T1 ++ e :: L1) ++ q :: L2 := by rw [hs, h1]; simp
      have hqT : q ∈ T := by rw [hsq]; simp
      obtain ⟨_, hcq⟩ := teOf_cases (w.at_ hsq).1
      obtain ⟨H', hqk⟩ : ∃ H', q.k = .w (st s0 (T1 ++ e :: L1)).H (st s0 (T1 ++ e :: L1)).F H' := by
        rcases hcq with ⟨_, h, _⟩ | ⟨_, ⟨_, h, _⟩ | ⟨h, _⟩ | ⟨_, _, h, _⟩ | ⟨H', _, h, _⟩⟩ <;> first | (rw [isWk, h] at hqw; cases hqw; done) | exact ⟨H', h⟩
      have hpd := (w.after hs hqT2).2 hrw (by simp [isRW, hqk])
      have hbit : q.bm.testBit e.i = false := by
        cases hb : q.bm.testBit e.i with
        | false => rfl
        | true => have := hC q hqT hqD _ hb; rw [hne] at this; cases this
      have hh := st_hf (T1 ++ e :: L1) s0
      rw [hf_of, List.filter_append, List.filter_cons_of_neg (by simp [isWk, hk]), h2] at hh
      have hA : A = (T1.filter isWk ++ X') ++ [q] := by rw [hX1]; simp
      rw [hA, List.foldl_append, ← hh] at hD
      simp only [List.foldl_cons, List.foldl_nil, stepHF, hqk, Prod.mk.injEq] at hD
      simp only [pairD, hk, hqk, bitOf, hbit, Bool.false_or] at hpd
      rw [hD.1, hD.2]
      exact same_eq hpd
  · -- W1 = A ++ X
    cases X with
    | nil => exact same1 (by rw [hX1]; simp)
    | cons q X =>
      obtain ⟨L1, L2, h1, h2, h3⟩ := filter_split hX1
      have hqT1 : q ∈ T1 := by rw [h1]; simp
      have hqw : isWk q = true := by
        have : q ∈ T1.filter isWk := by rw [hX1]; simp
        exact (List.mem_filter.1 this).2
      have hqD : D q.i = false := e4 q (by rw [hX2]; simp)
      have hsq : T = L1 ++ q :: (L2 ++ e :: T2) := by rw [hs, h1]; simp
      obtain ⟨_, hcq⟩ := teOf_cases (w.at_ hsq).1
      obtain ⟨H', hqk⟩ : ∃ H', q.k = .w (st s0 L1).H (st s0 L1).F H' := by
        rcases hcq with ⟨_, h, _⟩ | ⟨_, ⟨_, h, _⟩ | ⟨h, _⟩ | ⟨_, _, h, _⟩ | ⟨H', _, h, _⟩⟩ <;> first | (rw [isWk, h] at hqw; cases hqw; done) | exact ⟨H', h⟩
      have hpd := (w.before hs hqT1).2 (by simp [isRW, hqk]) hrw
      have hbit : e.bm.testBit q.i = false := by
        cases hb : e.bm.testBit q.i with
        | false => rfl
        | true => have := bm_in w hs hC hr _ hb; rw [hqD] at this; cases this
      have hh := st_hf L1 s0
      rw [hf_of, h2, ← hD] at hh
      have hH : (st s0 L1).H = (st s0 (fD T D)).H := congrArg Prod.fst hh
      have hF : (st s0 L1).F = (st s0 (fD T D)).F := congrArg Prod.snd hh
      simp only [pairD, hk, hqk, bitOf, hbit, Bool.false_or] at hpd
      rw [← hH, ← hF]
      exact same_eq hpd

/-! ### One operation more -/
noncomputable def addD (D : Nat → Bool) (i : Nat) : Nat → Bool := fun x => D x || Nat.beq x i
theorem fD_add (w : Wk P K nt ops base l T s0) (hs : T = T1 ++ e :: T2) : fD T (addD D e.i) = (T1.filter fun q => D q.i) ++ e :: (T2.filter fun q => D q.i) := by
  have hn := w.nodup
  rw [hs, List.map_append, List.map_cons, List.nodup_append] at hn
  obtain ⟨_, h2, h3⟩ := hn
  have n1 : ∀ q ∈ T1, q.i ≠ e.i := fun q hq => h3 _ (List.mem_map_of_mem hq) _ (.head _)
  have n2 : ∀ q ∈ T2, q.i ≠ e.i := fun q hq hqe => (List.nodup_cons.1 h2).1 (hqe ▸ List.mem_map_of_mem hq)
  unfold fD
  rw [hs, List.filter_append, List.filter_cons_of_pos (by simp [addD])]
  have hne : ∀ q : TE, q.i ≠ e.i → addD D e.i q.i = D q.i := fun q h => by
    have : Nat.beq q.i e.i = false := by
      cases hb : Nat.beq q.i e.i with
      | false => rfl
      | true => exact absurd (Nat.eq_of_beq_eq_true hb) h
    simp [addD, this]
  rw [List.filter_congr fun q hq => hne q (n1 q hq), List.filter_congr fun q hq => hne q (n2 q hq)]
theorem fD_split (hs : T = T1 ++ e :: T2) (hne : D e.i = false) : fD T D = (T1.filter fun q => D q.i) ++ (T2.filter fun q => D q.i) := by
  unfold fD
  rw [hs, List.filter_append, List.filter_cons_of_neg (by simp [hne])]
theorem tm_add (w : Wk P K nt ops base l T s0) (hs : T = T1 ++ e :: T2) (hne : D e.i = false) (x : Nat) : (st s0 (fD T (addD D e.i))).tm.get x = if e.o.dst = some x then some e.v else (st s0 (fD T D)).tm.get x := by
  obtain ⟨a1, a2⟩ := st_tm s0 x _ (w.dstne.filter fun q => addD D e.i q.i)
  obtain ⟨b1, b2⟩ := st_tm s0 x _ (w.dstne.filter fun q => D q.i)
  have hm := fD_add (D := D) w hs
  have hm2 := fD_split (D := D) hs hne
  by_cases hd : e.o.dst = some x
  · rw [if_pos hd]
    exact a1 e (by show e ∈ fD T (addD D e.i); rw [hm]; simp) hd
  · rw [if_neg hd]
    by_cases hq : ∃ q ∈ fD T D, q.o.dst = some x
    · obtain ⟨q, hq, hqd⟩ := hq
      have hq' : q ∈ fD T (addD D e.i) := by
        rw [hm]; rw [hm2] at hq
        rcases List.mem_append.1 hq with h | h
        · exact List.mem_append_left _ h
        · exact List.mem_append_right _ (.tail _ h)
      exact (a1 q hq' hqd).trans (b1 q hq hqd).symm
    · have h1 := b2 fun q hq1 hd1 => hq ⟨q, hq1, hd1⟩
      have h2 := a2 fun q hq1 hd1 => by
        have hq1 : q ∈ fD T (addD D e.i) := hq1
        rw [hm] at hq1
        rcases List.mem_append.1 hq1 with h | h
        · exact hq ⟨q, by rw [hm2]; exact List.mem_append_left _ h, hd1⟩
        · rcases List.mem_cons.1 h with rfl | h
          · exact hd hd1
          · exact hq ⟨q, by rw [hm2]; exact List.mem_append_right _ h, hd1⟩
      exact h2.trans h1.symm
theorem hf_add_not (w : Wk P K nt ops base l T s0) (hs : T = T1 ++ e :: T2) (hne : D e.i = false) (hw : isWk e = false) : (st s0 (fD T (addD D e.i))).H = (st s0 (fD T D)).H ∧ (st s0 (fD T (addD D e.i))).F = (st s0 (fD T D)).F := by
  have h1 := sD_hf (s0 := s0) (T := T) (addD D e.i)
  have h2 := sD_hf (s0 := s0) (T := T) D
  rw [fD_add w hs, List.filter_append, List.filter_cons_of_neg (by simp [hw]), ← List.filter_append, ← fD_split hs hne, ← h2] at h1
  rw [fD_add w hs]
  exact ⟨congrArg Prod.fst h1, congrArg Prod.snd h1⟩
theorem hf_add_w (w : Wk P K nt ops base l T s0) (hs : T = T1 ++ e :: T2) (hC : Clo T D) (hr : Rdy D e) (hne : D e.i = false) {H F H'} (hk : e.k = .w H F H') :
    (st s0 (fD T (addD D e.i))).H = H' ∧ (st s0 (fD T (addD D e.i))).F = Nat.lor (st s0 (fD T D)).F e.bm ∧ (st s0 T1).H = (st s0 (fD T D)).H ∧ (st s0 T1).F = (st s0 (fD T D)).F := by
  have hw : isWk e = true := by simp [isWk, hk]
  obtain ⟨p1, p2⟩ := w_here w hs hC hr hne hw
  have h1 := sD_hf (s0 := s0) (T := T) (addD D e.i)
  have h2 := sD_hf (s0 := s0) (T := T) D
  have h3 := st_hf T1 s0
  have p3 : (T1.filter fun q => D q.i).filter isWk = T1.filter isWk := by
    rw [fD_split hs hne, List.filter_append, p2, List.append_nil] at p1; exact p1
  rw [fD_add w hs, List.filter_append, List.filter_cons_of_pos hw, p2, p3, List.foldl_append] at h1
  rw [p1] at h2
  rw [hf_of, ← h2] at h3
  rw [← h2] at h1
  simp only [List.foldl_cons, List.foldl_nil, stepHF, hk, Prod.mk.injEq] at h1
  rw [fD_add w hs]
  exact ⟨h1.1, h1.2, congrArg Prod.fst h3, congrArg Prod.snd h3⟩
theorem clo_add (w : Wk P K nt ops base l T s0) (hs : T = T1 ++ e :: T2) (hC : Clo T D) (hr : Rdy D e) : Clo T (addD D e.i) := by
  intro q hq hqD j hj
  by_cases h : D q.i = true
  · simp [addD, hC q hq h j hj]
  · have hi : q.i = e.i := by
      simp only [addD, Bool.or_eq_true] at hqD
      rcases hqD with h' | h'
      · exact absurd h' h
      · exact Nat.eq_of_beq_eq_true h'
    have heT : e ∈ T := by rw [hs]; simp
    rw [w.uniq hq heT hi] at hj
    simp [addD, bm_in w hs hC hr j hj]
end
end Go.Ev
