/- PART OF A PROOF: an evaluator over the model (its own text), and that it is sound: what it reckons, the machine does. No condition. -/
import Derived.Test.YtcbdaloghdidfabGreatDoorEvD2
namespace Go.Ev
open Go.RowKit

theorem looks_op {ops : Array Oper} {o : Oper} {t : Nat} (h : Operand.tmp t ∈ o.op.operands.toList) : t ∈ looksA ops o := by
  have key : ∀ l : List Operand, Operand.tmp t ∈ l → t ∈ tmpsOf l := by
    intro l
    induction l with
    | nil => intro h; cases h
    | cons x l ih =>
      intro h
      rcases List.mem_cons.1 h with h1 | h1
      · rw [← h1]; simp [tmpsOf]
      · cases x <;> simp [tmpsOf, ih h1]
  have := key _ h
  unfold looksA
  split
  · exact this
  · split
    · split
      · exact .tail _ this
      · exact this
    · exact this
theorem looks_guard {ops : Array Oper} {o oj : Oper} {j d : Nat} {w : Bool} (h : o.guard = some (j, w)) (hj : ops[j]? = some oj) (hd : oj.dst = some d) : d ∈ looksA ops o := by
  simp [looksA, h, hj, hd]
theorem inL_mem {t : Nat} : ∀ {l : List Nat}, t ∈ l → inL t l = true := by
  intro l
  induction l with
  | nil => intro h; cases h
  | cons x l ih =>
    intro h
    simp only [inL, cond_eq]
    rcases List.mem_cons.1 h with h1 | h1
    · simp [h1]
    · split
      · rfl
      · exact ih h1

section
variable {P : Program} {ops : Array Oper} {K : Kx} {nt base : Nat}
theorem teOf_cases {it : Item} {s : DS} {e : TE} (h : teOf P K ops base it s = some e) : e.tm = s.tm ∧
    ((wantedA ops e.tm e.o = some false ∧ e.k = .n ∧ e.v = undefA) ∨
     (wantedA ops e.tm e.o = some true ∧
      ((cls P e.o.op = .p ∧ e.k = .n ∧ evP P e.tm e.o.op = some e.v) ∨
       (e.k = .r s.as ∧ evR P e.tm (layA base (mdiff e.bm s.F) s.as s.H) e.o.op = some e.v) ∨
       (∃ ao k, e.k = .a ao ∧ evA P e.tm e.o.op = some (ao, k) ∧ e.v = k.at (base + e.i)) ∨
       (∃ H', cls P e.o.op = .w ∧ e.k = .w s.H s.F H' ∧ evW P K e.tm (layA base (mdiff e.bm s.F) s.as s.H) e.o.op = some (e.v, H'))))) := by
  obtain ⟨i, o, bm⟩ := it
  simp only [teOf, ob_eq] at h
  obtain ⟨b, hb, h⟩ := h
  cases b with
  | false => simp only [Option.some.injEq] at h; subst h; exact ⟨rfl, .inl ⟨hb, rfl, rfl⟩⟩
  | true =>
    simp only at h
    split at h
    · rename_i hc
      simp only [ob_eq, Option.some.injEq] at h
      obtain ⟨v, hv, rfl⟩ := h
      exact ⟨rfl, .inr ⟨hb, .inl ⟨hc, rfl, hv⟩⟩⟩
    · simp only [ob_eq, Option.some.injEq] at h
      obtain ⟨v, hv, rfl⟩ := h
      exact ⟨rfl, .inr ⟨hb, .inr (.inl ⟨rfl, hv⟩)⟩⟩
    · simp only [ob_eq, Option.some.injEq] at h
      obtain ⟨⟨ao, k⟩, hv, rfl⟩ := h
      exact ⟨rfl, .inr ⟨hb, .inr (.inr (.inl ⟨ao, k, rfl, hv, rfl⟩))⟩⟩
    · rename_i hc
      simp only [ob_eq, Option.some.injEq] at h
      obtain ⟨⟨v, H'⟩, hv, rfl⟩ := h
      exact ⟨rfl, .inr ⟨hb, .inr (.inr (.inr ⟨H', hc, rfl, hv⟩))⟩⟩

/-- All that is known of a region's walk. -/
structure Wk (P : Program) (K : Kx) (nt : Nat) (ops : Array Oper) (base : Nat) (l : List Item) (T : List TE) (s0 : DS) : Prop where
  plan : PlanR P ops l
  trc : Trc P K nt ops base s0 T
  map : T.map TE.item = l
  dyn : T.Pairwise fun p q => isRW p = true → isRW q = true → pairD P base p q = true

variable {l : List Item} {T : List TE} {s0 : DS}
namespace Wk
theorem split (w : Wk P K nt ops base l T s0) {T1 T2 : List TE} {e : TE} (h : T = T1 ++ e :: T2) : l = T1.map TE.item ++ e.item :: T2.map TE.item := by
  rw [← w.map, h]; simp
theorem nodup (w : Wk P K nt ops base l T s0) : (T.map (·.i)).Nodup := by
  have := w.plan.nodup
  rw [← w.map, List.map_map] at this
  exact this
theorem uniq (w : Wk P K nt ops base l T s0) {e e' : TE} (h : e ∈ T) (h' : e' ∈ T) (hi : e.i = e'.i) : e = e' := by
  have hn := w.nodup
  clear w
  induction T with
  | nil => cases h
  | cons x T ih =>
    simp only [List.map_cons, List.nodup_cons] at hn
    rcases List.mem_cons.1 h with h1 | h1 <;> rcases List.mem_cons.1 h' with h2 | h2
    · rw [h1, h2]
    · have := List.mem_map_of_mem (f := (·.i)) h2
      rw [← hi, h1] at this
      exact absurd this hn.1
    · have := List.mem_map_of_mem (f := (·.i)) h1
      rw [hi, h2] at this
      exact absurd this hn.1
    · exact ih h1 h2 hn.2
theorem pairs (w : Wk P K nt ops base l T s0) : T.Pairwise fun p q => pairS P ops p.item q.item = true := by
  have := w.plan.pair
  rw [← w.map, List.pairwise_map] at this
  exact this
theorem dstne (w : Wk P K nt ops base l T s0) : T.Pairwise fun p q => dstNe p.o.dst q.o.dst = true := by
  refine w.pairs.imp fun {p q} h => ?_
  simp only [pairS, Bool.and_eq_true] at h
  exact h.1
theorem before (w : Wk P K nt ops base l T s0) {T1 T2 : List TE} {e q : TE} (h : T = T1 ++ e :: T2) (hq : q ∈ T1) : pairS P ops q.item e.item = true ∧ (isRW q = true → isRW e = true → pairD P base q e = true) := by
  have h1 := w.pairs
  have h2 := w.dyn
  rw [h, List.pairwise_append] at h1 h2
  exact ⟨h1.2.2 q hq e (.head _), h2.2.2 q hq e (.head _)⟩
theorem after (w : Wk P K nt ops base l T s0) {T1 T2 : List TE} {e q : TE} (h : T = T1 ++ e :: T2) (hq : q ∈ T2) : pairS P ops e.item q.item = true ∧ (isRW e = true → isRW q = true → pairD P base e q = true) := by
  have h1 := w.pairs
  have h2 := w.dyn
  rw [h, List.pairwise_append, List.pairwise_cons] at h1 h2
  exact ⟨h1.2.1.1 q hq, h2.2.1.1 q hq⟩
theorem at_ (w : Wk P K nt ops base l T s0) {T1 T2 : List TE} {e : TE} (h : T = T1 ++ e :: T2) : teOf P K ops base e.item (st s0 T1) = some e ∧ dstOK nt e.o.dst = true := by
  have := w.trc
  rw [h] at this
  exact trc_split this
end Wk

def Clo (T : List TE) (D : Nat → Bool) : Prop := ∀ e ∈ T, D e.i = true → ∀ j, e.bm.testBit j = true → D j = true
def Rdy (D : Nat → Bool) (e : TE) : Prop := ∀ x ∈ e.o.after, Region.binds .any x = true → D x.on = true
noncomputable def fD (T : List TE) (D : Nat → Bool) : List TE := T.filter fun e => D e.i
theorem dstIn_of {d : Option Tmp} {x : Nat} {l : List Nat} (hd : d = some x) (hx : x ∈ l) : dstIn d l = true := by
  subst hd; exact inL_mem hx
theorem pair_bit {p q : Item} (h : pairS P ops p q = true) (hc : (isW P p.2.1 = true ∧ isW P q.2.1 = true) ∨ (∃ x, p.2.1.dst = some x ∧ x ∈ looksA ops q.2.1) ∨ (∃ x, q.2.1.dst = some x ∧ x ∈ looksA ops p.2.1)) : q.2.2.testBit p.1 = true := by
  simp only [pairS, Bool.and_eq_true, Bool.or_eq_true, Bool.not_eq_true', bitOf] at h
  rcases h.2 with h | ⟨⟨h1, h2⟩, h3⟩
  · exact h
  · rcases hc with ⟨a, b⟩ | ⟨x, a, b⟩ | ⟨x, a, b⟩
    · rw [a, b] at h1; cases h1
    · rw [dstIn_of a b] at h2; cases h2
    · rw [dstIn_of a b] at h3; cases h3
theorem isWk_isW (w : Wk P K nt ops base l T s0) {e : TE} (he : e ∈ T) (h : isWk e = true) : isW P e.o = true := by
  obtain ⟨T1, T2, hs⟩ := List.append_of_mem he
  obtain ⟨_, hc⟩ := teOf_cases (w.at_ hs).1
  rcases hc with ⟨_, hk, _⟩ | ⟨_, ⟨_, hk, _⟩ | ⟨hk, _⟩ | ⟨_, _, hk, _⟩ | ⟨_, hc, hk, _⟩⟩ <;> first | (rw [isWk, hk] at h; cases h; done) | skip
  simp [isW, hc]

section D
variable {D : Nat → Bool} {T1 T2 : List TE} {e : TE}
theorem bm_in (w : Wk P K nt ops base l T s0) (hs : T = T1 ++ e :: T2) (hC : Clo T D) (hr : Rdy D e) : ∀ j, e.bm.testBit j = true → D j = true := by
  intro j hj
  obtain ⟨x, hx, hb, h⟩ := w.plan.bits _ _ _ (w.split hs) j hj
  rcases h with rfl | ⟨p, hp, hpi, hpb⟩
  · exact hr x hx hb
  · obtain ⟨e', he', rfl⟩ := List.mem_map.1 hp
    have he'T : e' ∈ T := by rw [hs]; exact List.mem_append_left _ he'
    have hpi : e'.i = x.on := hpi
    exact hC e' he'T (by rw [hpi]; exact hr x hx hb) j hpb
theorem bm_before (w : Wk P K nt ops base l T s0) : ∀ (T1 T2 : List TE) (e : TE), T = T1 ++ e :: T2 → ∀ j, e.bm.testBit j = true → ∃ q ∈ T1, q.i = j := by
  have key : ∀ (n : Nat) (T1 T2 : List TE) (e : TE), T1.length ≤ n → T = T1 ++ e :: T2 → ∀ j, e.bm.testBit j = true → ∃ q ∈ T1, q.i = j := by
    intro n
    induction n with
    | zero =>
      intro T1 T2 e hl hs j hj
      obtain ⟨x, hx, hb, h⟩ := w.plan.bits _ _ _ (w.split hs) j hj
      obtain ⟨_, p, hp, _⟩ := w.plan.edge _ _ _ (w.split hs) x hx hb
      have : T1 = [] := List.length_eq_zero_iff.1 (by omega)
      subst this
      cases hp
    | succ n ih =>
      intro T1 T2 e hl hs j hj
      obtain ⟨x, hx, hb, h⟩ := w.plan.bits _ _ _ (w.split hs) j hj
      rcases h with rfl | ⟨p, hp, hpi, hpb⟩
      · obtain ⟨_, p, hp, hpi⟩ := w.plan.edge _ _ _ (w.split hs) x hx hb
        obtain ⟨e', he', rfl⟩ := List.mem_map.1 hp
        exact ⟨e', he', hpi⟩
      · obtain ⟨e', he', rfl⟩ := List.mem_map.1 hp
        obtain ⟨A, C, hA⟩ := List.append_of_mem he'
        obtain ⟨q, hq, hqi⟩ := ih A (C ++ e :: T2) e' (by rw [hA] at hl; simp at hl; omega) (by rw [hs, hA]; simp) j hpb
        exact ⟨q, by rw [hA]; exact List.mem_append_left _ hq, hqi⟩
  exact fun T1 T2 e hs => key T1.length T1 T2 e (Nat.le_refl _) hs

/-- The temporaries that an operation looks at stand as they stood in the walk. -/
theorem tm_agree (w : Wk P K nt ops base l T s0) (hs : T = T1 ++ e :: T2) (hC : Clo T D) (hr : Rdy D e) (hne : D e.i = false) {x : Nat} (hx : x ∈ looksA ops e.o) : (st s0 (fD T D)).tm.get x = e.tm.get x := by
  have htm : e.tm = (st s0 T1).tm := (teOf_cases (w.at_ hs).1).1
  rw [htm]
  have hp := w.dstne
  have hpD : (fD T D).Pairwise fun p q => dstNe p.o.dst q.o.dst = true := hp.filter _
  have hp1 : T1.Pairwise fun p q => dstNe p.o.dst q.o.dst = true := by rw [hs, List.pairwise_append] at hp; exact hp.1
  obtain ⟨a1, a2⟩ := st_tm s0 x _ hpD
  obtain ⟨b1, b2⟩ := st_tm s0 x _ hp1
  by_cases hq : ∃ q ∈ T1, q.o.dst = some x
  · obtain ⟨q, hq, hqd⟩ := hq
    have hbit := pair_bit (w.before hs hq).1 (.inr (.inl ⟨x, hqd, hx⟩))
    have hqD : D q.i = true := bm_in w hs hC hr _ hbit
    have hqT : q ∈ T := by rw [hs]; exact List.mem_append_left _ hq
    rw [a1 q (List.mem_filter.2 ⟨hqT, hqD⟩) hqd, b1 q hq hqd]
  · rw [b2 fun q hq1 hd => hq ⟨q, hq1, hd⟩]
    refine a2 fun q hqD hd => ?_
    obtain ⟨hqT, hqD⟩ := List.mem_filter.1 hqD
    rw [hs] at hqT
    rcases List.mem_append.1 hqT with h | h
    · exact hq ⟨q, h, hd⟩
    · rcases List.mem_cons.1 h with rfl | h
      · rw [hne] at hqD; cases hqD
      · have hbit := pair_bit (w.after hs h).1 (.inr (.inr ⟨x, hd, hx⟩))
        have := hC q (by rw [hs]; exact List.mem_append_right _ (.tail _ h)) hqD e.i hbit
        rw [hne] at this
        cases this
/-- Of the operations that work on the heap, those done are the first. -/
theorem w_prefix (w : Wk P K nt ops base l T s0) (hC : Clo T D) : ∃ A C, T.filter isWk = A ++ C ∧ (fD T D).filter isWk = A ∧ (∀ q ∈ A, D q.i = true) ∧ ∀ q ∈ C, D q.i = false := by
  have hpw : (T.filter isWk).Pairwise fun p q => D q.i = true → D p.i = true := by
    rw [List.pairwise_filter]
    have := w.pairs
    rw [List.pairwise_iff_forall_sublist] at this ⊢
    intro p q hsub hp hq hD
    have hpT : p ∈ T := hsub.subset (.head _)
    have hqT : q ∈ T := hsub.subset (.tail _ (.head _))
    exact hC q hqT hD _ (pair_bit (this hsub) (.inl ⟨isWk_isW w hpT hp, isWk_isW w hqT hq⟩))
  have hcomm : (fD T D).filter isWk = (T.filter isWk).filter fun e => D e.i := by
    unfold fD; rw [List.filter_filter, List.filter_filter]; congr 1; funext e; exact Bool.and_comm _ _
  rw [hcomm]
  generalize T.filter isWk = W at hpw
  clear hcomm
  induction W with
  | nil => exact ⟨[], [], rfl, rfl, fun _ h => (by cases h), fun _ h => (by cases h)⟩
  | cons q W ih =>
    obtain ⟨h1, h2⟩ := List.pairwise_cons.1 hpw
    obtain ⟨A, C, e1, e2, e3, e4⟩ := ih h2
    by_cases hq : D q.i = true
    · refine ⟨q :: A, C, by rw [e1]; rfl, by rw [List.filter_cons_of_pos (by simpa using hq), e2], fun x hx => ?_, e4⟩
      rcases List.mem_cons.1 hx with rfl | hx
      · exact hq
      · exact e3 x hx
    · have hno : ∀ x ∈ W, D x.i = false := fun x hx => by
        cases hd : D x.i with
        | false => rfl
        | true => exact absurd (h1 x hx hd) hq
      refine ⟨[], q :: W, rfl, ?_, fun _ h => (by cases h), fun x hx => ?_⟩
      · rw [List.filter_cons_of_neg (by simpa using hq)]
        exact List.filter_eq_nil_iff.2 fun x hx => by rw [hno x hx]; simp
      · rcases List.mem_cons.1 hx with rfl | hx
        · simpa using hq
        · exact hno x hx
end D
end
end Go.Ev
