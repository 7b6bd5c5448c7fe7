/- PART OF A PROOF: an evaluator over the model (its own text), and that it is sound: what it reckons, the machine does. No condition. -/
import Derived.Test.YtcbdaloghdidfabGreatDoorEvD1
namespace Go.Ev
open Go.RowKit
section
variable {P : Program} {ops : Array Oper} {K : Kx} {nt base : Nat}

def TE.item (e : TE) : Item := (e.i, e.o, e.bm)
noncomputable def st (s : DS) (L : List TE) : DS := L.foldl nextS s
/-- The walk's trace, in order. -/
inductive Trc (P : Program) (K : Kx) (nt : Nat) (ops : Array Oper) (base : Nat) : DS → List TE → Prop
  | nil (s : DS) : Trc P K nt ops base s []
  | cons (s : DS) (e : TE) (T : List TE) (h : teOf P K ops base e.item s = some e) (hd : dstOK nt e.o.dst = true) (ht : Trc P K nt ops base (nextS s e) T) : Trc P K nt ops base s (e :: T)
theorem teOf_item {it : Item} {s : DS} {e : TE} (h : teOf P K ops base it s = some e) : e.item = it := by
  obtain ⟨i, o, bm⟩ := it
  simp only [teOf, ob_eq] at h
  obtain ⟨b, hb, h⟩ := h
  cases b with
  | false => simp only [Option.some.injEq] at h; rw [← h]; rfl
  | true =>
    simp only at h
    split at h <;> (simp only [ob_eq, Option.some.injEq] at h; obtain ⟨_, _, h⟩ := h; rw [← h]; rfl)
theorem passA_spec : ∀ {l : List Item} {s s' : DS} {acc T' : List TE}, passA P K nt ops base l s acc = some (T', s') →
    ∃ T, T' = T.reverse ++ acc ∧ Trc P K nt ops base s T ∧ T.map TE.item = l ∧ s' = st s T := by
  intro l
  induction l with
  | nil => intro s s' acc T' h; cases h; exact ⟨[], by simp, .nil _, rfl, rfl⟩
  | cons it l ih =>
    intro s s' acc T' h
    simp only [passA, chk_eq, ob_eq] at h
    obtain ⟨hd, e, he, h⟩ := h
    have hi := teOf_item he
    obtain ⟨T, h1, h2, h3, h4⟩ := ih h
    have hd' : dstOK nt e.o.dst = true := by rw [← hi] at hd; exact hd
    refine ⟨e :: T, by simp [h1], .cons _ _ _ (by rw [hi]; exact he) hd' h2, by simp [hi, h3], h4⟩
theorem trc_split : ∀ {T1 : List TE} {s : DS} {e : TE} {T2 : List TE}, Trc P K nt ops base s (T1 ++ e :: T2) → teOf P K ops base e.item (st s T1) = some e ∧ dstOK nt e.o.dst = true := by
  intro T1
  induction T1 with
  | nil => intro s e T2 h; cases h with | cons _ _ _ h hd _ => exact ⟨h, hd⟩
  | cons x T1 ih => intro s e T2 h; cases h with | cons _ _ _ _ _ ht => exact ih ht
theorem st_append (s : DS) (L1 L2 : List TE) : st s (L1 ++ L2) = st (st s L1) L2 := List.foldl_append ..

theorem nextS_tm (s : DS) (e : TE) : (nextS s e).tm = putD s.tm e.o.dst e.v := by
  unfold nextS; cases e.k <;> rfl
theorem putD_get (t : Tr AV) (d : Option Tmp) (v : AV) (x : Nat) : (putD t d v).get x = if d = some x then some v else t.get x := by
  cases d with
  | none => simp [putD]
  | some d =>
    simp only [putD, Tr.get_set, Option.some.injEq]
    by_cases h : x = d
    · subst h; simp
    · rw [if_neg h, if_neg (fun e => h e.symm)]
/-- Who writes x in L, else what stood there. -/
theorem st_tm (s : DS) (x : Nat) : ∀ (L : List TE), (L.Pairwise fun p q => dstNe p.o.dst q.o.dst = true) →
    (∀ e ∈ L, e.o.dst = some x → (st s L).tm.get x = some e.v) ∧ ((∀ e ∈ L, e.o.dst ≠ some x) → (st s L).tm.get x = s.tm.get x) := by
  intro L
  induction L generalizing s with
  | nil => intro _; exact ⟨fun e he => (by cases he), fun _ => rfl⟩
  | cons q L ih =>
    intro hp
    cases hp with
    | cons h1 h2 =>
    obtain ⟨i1, i2⟩ := ih (nextS s q) h2
    refine ⟨fun e he hd => ?_, fun hn => ?_⟩
    · rcases List.mem_cons.1 he with rfl | he
      · have : (st s (e :: L)).tm.get x = (nextS s e).tm.get x := i2 fun e' he' hd' => by
          have := h1 e' he'
          rw [hd, hd'] at this
          simp [dstNe] at this
        rw [this, nextS_tm, putD_get, if_pos hd]
      · exact i1 e he hd
    · have : (st s (q :: L)).tm.get x = (nextS s q).tm.get x := i2 fun e' he' => hn e' (.tail _ he')
      rw [this, nextS_tm, putD_get, if_neg (hn q (.head _))]
noncomputable def isWk (e : TE) : Bool :=
  match e.k with
  | .w _ _ _ => true
  | _ => false
noncomputable def stepHF (x : AHeap × Nat) (e : TE) : AHeap × Nat :=
  match e.k with
  | .w _ _ H' => (H', Nat.lor x.2 e.bm)
  | _ => x
noncomputable def hf (x : AHeap × Nat) (L : List TE) : AHeap × Nat := (L.filter isWk).foldl stepHF x
theorem st_hf : ∀ (L : List TE) (s : DS), ((st s L).H, (st s L).F) = hf (s.H, s.F) L := by
  intro L
  induction L with
  | nil => intro s; rfl
  | cons e L ih =>
    intro s
    have h1 := ih (nextS s e)
    have : ((st s (e :: L)).H, (st s (e :: L)).F) = ((st (nextS s e) L).H, (st (nextS s e) L).F) := rfl
    rw [this, h1]
    unfold hf nextS
    cases hk : e.k with
    | w H F H' => simp [isWk, hk, stepHF]
    | _ => simp [isWk, hk]
theorem st_F (s : DS) (j : Nat) : ∀ (L : List TE), (st s L).F.testBit j = true ↔ s.F.testBit j = true ∨ ∃ e ∈ L, isWk e = true ∧ e.bm.testBit j = true := by
  intro L
  induction L generalizing s with
  | nil => simp [st]
  | cons e L ih =>
    have : (st s (e :: L)).F = (st (nextS s e) L).F := rfl
    rw [this, ih]
    cases hk : e.k with
    | w H F H' =>
      have hF : (nextS s e).F.testBit j = (s.F.testBit j || e.bm.testBit j) := by
        simp only [nextS, hk]
        show (s.F ||| e.bm).testBit j = _
        rw [Nat.testBit_or]
      rw [hF]
      have hw : isWk e = true := by simp [isWk, hk]
      simp [hw, or_assoc]
    | _ =>
      have hF : (nextS s e).F = s.F := by simp [nextS, hk]
      have hw : isWk e = false := by simp [isWk, hk]
      rw [hF]; simp [hw]
theorem st_as (s : DS) (j : Nat) (ao : AO) : ∀ (L : List TE), (j, ao) ∈ (st s L).as ↔ (j, ao) ∈ s.as ∨ ∃ e ∈ L, e.k = .a ao ∧ e.i = j := by
  intro L
  induction L generalizing s with
  | nil => simp [st]
  | cons e L ih =>
    have : (st s (e :: L)).as = (st (nextS s e) L).as := rfl
    rw [this, ih]
    cases hk : e.k with
    | a ao' =>
      have hF : (nextS s e).as = (e.i, ao') :: s.as := by simp [nextS, hk]
      rw [hF]
      simp only [List.mem_cons, Prod.mk.injEq, hk, TK.a.injEq, exists_eq_or_imp]
      constructor
      · rintro ((⟨h1, h2⟩ | h) | h)
        · exact .inr (.inl ⟨h2.symm, h1.symm⟩)
        · exact .inl h
        · exact .inr (.inr h)
      · rintro (h | ⟨h1, h2⟩ | h)
        · exact .inl (.inr h)
        · exact .inl (.inl ⟨h2.symm, h1.symm⟩)
        · exact .inr h
    | _ =>
      have hF : (nextS s e).as = s.as := by simp [nextS, hk]
      rw [hF]
      simp [hk]

/-- The block that operation j has laid. -/
noncomputable def aoOf : List TE → Nat → Option AO
  | [], _ => none
  | e :: T, j => if e.i = j then (match e.k with | .a ao => some ao | _ => none) else aoOf T j
theorem aoOf_mem : ∀ {T : List TE} {j : Nat} {ao : AO}, aoOf T j = some ao → ∃ e ∈ T, e.k = .a ao ∧ e.i = j := by
  intro T
  induction T with
  | nil => intro j ao h; cases h
  | cons e T ih =>
    intro j ao h
    simp only [aoOf] at h
    split at h
    · rename_i hi
      split at h
      · rename_i ao' hk
        cases h
        exact ⟨e, .head _, hk, hi⟩
      · cases h
    · obtain ⟨e', h1, h2⟩ := ih h
      exact ⟨e', .tail _ h1, h2⟩
theorem aoOf_at : ∀ {T : List TE} {e : TE}, (T.map (·.i)).Nodup → e ∈ T → aoOf T e.i = (match e.k with | .a ao => some ao | _ => none) := by
  intro T
  induction T with
  | nil => intro e _ h; cases h
  | cons x T ih =>
    intro e hn he
    simp only [List.map_cons, List.nodup_cons] at hn
    cases he with
    | head => simp [aoOf]
    | tail _ he =>
      have hne : x.i ≠ e.i := fun h => hn.1 (h ▸ List.mem_map_of_mem he)
      simp only [aoOf, if_neg hne]
      exact ih hn.2 he

theorem mdiff_bit (m F j : Nat) : (mdiff m F).testBit j = (m.testBit j && !F.testBit j) := by
  show ((m ||| F) ^^^ F).testBit j = _
  rw [Nat.testBit_xor, Nat.testBit_or]
  cases m.testBit j <;> cases F.testBit j <;> rfl

section at_
variable {E : Nat → Option AO} {R : Nat → Prop} {H : AHeap} {S : Wd}
/-- A block that lies beside is taken in. -/
theorem At.take {b : Nat} {o : AO} (h : At E R H S) (hb : S.H.g b = some o) : At (fun x => if x = b then none else E x) R ⟨H.next, H.t.set b o⟩ S where
  g := fun x => by
    simp only [Tr.get_set]
    by_cases e : x = b
    · subst e; simp [hb]
    · simp only [if_neg e]; exact h.g x
  sep := fun x o' hx => by
    simp only [Tr.get_set]
    by_cases e : x = b
    · simp [e] at hx
    · rw [if_neg e] at hx ⊢; exact h.sep x o' hx
  al := h.al
  r := h.r
theorem At.lay {m : Nat} : ∀ {as : List (Nat × AO)} {E : Nat → Option AO} {H : AHeap}, At E R H S → (∀ j ao, (j, ao) ∈ as → m.testBit j = true → S.H.g (base + j) = some ao) →
    ∃ E', At E' R (layA base m as H) S ∧ ∀ x, ((∃ j ao, (j, ao) ∈ as ∧ m.testBit j = true ∧ x = base + j) → E' x = none) ∧ ((∀ j ao, (j, ao) ∈ as → m.testBit j = true → x ≠ base + j) → E' x = E x) := by
  intro as
  induction as with
  | nil => intro E H h _; exact ⟨E, h, fun x => ⟨fun ⟨_, _, hx, _⟩ => (by cases hx), fun _ => rfl⟩⟩
  | cons p as ih =>
    obtain ⟨j, o⟩ := p
    intro E H h hg
    by_cases hb : m.testBit j = true
    · have e : layA base m ((j, o) :: as) H = layA base m as ⟨H.next, H.t.set (base + j) o⟩ := by simp [layA, bitOf, hb]
      rw [e]
      obtain ⟨E', i1, i2⟩ := ih (h.take (hg j o (.head _) hb)) fun j' ao' h' hb' => hg j' ao' (.tail _ h') hb'
      refine ⟨E', i1, fun x => ⟨fun ⟨j', ao', h', hb', hx⟩ => ?_, fun hn => ?_⟩⟩
      · by_cases hin : ∃ j ao, (j, ao) ∈ as ∧ m.testBit j = true ∧ x = base + j
        · exact (i2 x).1 hin
        · rw [(i2 x).2 fun j2 ao2 h2 hb2 hx2 => hin ⟨j2, ao2, h2, hb2, hx2⟩]
          cases h' with
          | head => simp [hx]
          | tail _ h' => exact absurd ⟨j', ao', h', hb', hx⟩ hin
      · rw [(i2 x).2 fun j2 ao2 h2 hb2 => hn j2 ao2 (.tail _ h2) hb2, if_neg (hn j o (.head _) hb)]
    · have e : layA base m ((j, o) :: as) H = layA base m as H := by
        have hb' : bitOf m j = false := by simpa [bitOf] using hb
        simp [layA, hb']
      rw [e]
      obtain ⟨E', i1, i2⟩ := ih h fun j' ao' h' hb' => hg j' ao' (.tail _ h') hb'
      refine ⟨E', i1, fun x => ⟨fun ⟨j', ao', h', hb', hx⟩ => ?_, fun hn => ?_⟩⟩
      · cases h' with
        | head => exact absurd hb' hb
        | tail _ h' => exact (i2 x).1 ⟨j', ao', h', hb', hx⟩
      · exact (i2 x).2 fun j2 ao2 h2 hb2 => hn j2 ao2 (.tail _ h2) hb2
theorem At.congr {E' : Nat → Option AO} {R' : Nat → Prop} (h : At E R H S) (he : ∀ x, E x = E' x) (hr : ∀ x, R' x → R x) : At E' R' H S :=
  ⟨fun b => by rw [h.g b, he b], fun b o hb => h.sep b o (by rw [he b]; exact hb), h.al, fun b hb => h.r b (hr b hb)⟩
end at_
end
end Go.Ev
