/- PART OF A PROOF: an evaluator over the model (its own text), and that it is sound: what it reckons, the machine does. No condition. -/
import Derived.Test.YtcbdaloghdidfabGreatDoorEvTop
namespace Go.Ev
open Go.RowKit

/-- A value without addresses. -/
def PureV (x : AV) : Prop := ∀ S S' v, VRel S x v → VRel S' x v
theorem pure_bool (b : Bool) : PureV (.bool b) := fun _ _ _ h => by cases h; exact .bool b
theorem pure_int (k : IntKind) (n : Int) : PureV (.int k n) := fun _ _ _ h => by cases h; exact .int k n

section
variable {P : Program} {B : Nat} {S : Wd} {E : Nat → Option AO} {R : Nat → Prop} {H : AHeap}
/-- The same blocks, later: all that was there stands as it stood. -/
theorem later_same {w' : World} (h : Rel P.globals.size B S) (hs : S.w.heap.size ≤ w'.heap.size) (hsame : ∀ k, k < S.w.heap.size → w'.heap[k]? = S.w.heap[k]?) : Later S ⟨S.H, S.μ, w'⟩ where
  a := fun a c hA => ⟨hA.lt, hA.base, hA.spot, fun n t k hg => by
    have hp := hA.place n t k hg
    cases k with
    | fixed ro => exact hp
    | rub st lo =>
      refine ⟨hp.1, fun h1 h2 => ?_⟩
      rcases hp.2 h1 h2 with hp | ho
      · exact .inl hp
      · refine .inr ⟨ho.tip, ho.unm, Nat.lt_of_lt_of_le ho.lt hs, fun i hi1 hi2 => ?_⟩
        show w'.cell? _ = w'.cell? _
        rw [cell_same (hsame _ ho.lt), cell_same (hsame _ (h.lt hg))]
        exact ho.same i hi1 hi2⟩
  c := fun a len cap opn c cap' _ hC => ⟨hC.le, hC.exact, hC.ge, fun h0 n t st lo hg h1 h2 h3 cs ty fr he => by
    have he : w'.heap[(S.μ a.b).1]? = some (.cells cs ty fr) := he
    rw [hsame _ (h.lt hg)] at he
    exact hC.fits h0 n t st lo hg h1 h2 h3 cs ty fr he⟩
  m := fun _ _ h => ⟨h.lt, h.at_⟩
  f := fun _ _ h => by cases h with
    | func f => exact .func f
    | yield l l' lt at_ => exact .yield l l' lt at_
theorem behind_same {w' : World} (h : Rel P.globals.size B S) (hH : At E R H S) (hb : Below B S.w w') (hsame : ∀ k, k < S.w.heap.size → w'.heap[k]? = S.w.heap[k]?) : Behind P B E R S H ⟨S.H, S.μ, w'⟩ := by
  have L := later_same h hb.size hsame
  exact ⟨⟨h.gb, Nat.le_trans h.base hb.size, h.gnx, h.glob, h.dom, h.inj, fun b o hg => (h.obj b o hg).keep L rfl (hsame _ (h.lt hg))⟩,
    ⟨L.a, L.c, L.m, L.f, fun k hk hu => ⟨hsame k hk, hu⟩, hb, fun _ h => h, fun _ _ h => h⟩, ⟨hH.g, hH.sep, hH.al, hH.r⟩⟩

/-- What a call without arguments yields over the tables alone, it yields over every heap that holds them; and no block that was there turns. -/
theorem pure_call {K : Kx} (hK : KOK P K) {Hi H' : AHeap} (hn : Hi.next = P.globals.size) (hdom : ∀ b o, Hi.t.get b = some o → b < Hi.next)
    (hp : ∀ b o, Hi.t.get b = some o → ∃ n t, o = .cells n t (.fixed true) ∧ ∀ i x, i < n → t.get i = some x → PureV x) {f : FuncId} {r : AV} (hr : PureV r) (hc : K.call f [] Hi = some (r, H')) :
    (∃ fn c, P.funcs[f]? = some fn ∧ fn.body = some c) ∧ ∀ H, (∀ b o, Hi.t.get b = some o → H.t.get b = some o) → ∀ B E R S args', VRels S [] args' → Rel P.globals.size B S → At E R H S → CallsIn Fence.wide 0 P f args'.toArray S.w (CallR P B E R S r H) := by
  obtain ⟨hfn, hcall⟩ := hK.call _ _ _ _ _ hc
  refine ⟨hfn, fun H hsub B E R S args' hv h hH => ?_⟩
  cases hv
  have hg : ∀ b o, Hi.t.get b = some o → S.H.g b = some o := fun b o hb => hH.get (hsub b o hb)
  have hlt : ∀ b o, Hi.t.get b = some o → b < P.globals.size := fun b o hb => by rw [← hn]; exact hdom b o hb
  let Sr : Wd := ⟨⟨Hi.t.get, fun b => b < Hi.next⟩, S.μ, S.w⟩
  have hrel : Rel P.globals.size B Sr := by
    refine ⟨h.gb, h.base, fun b hb => by rw [← hn] at hb; exact hb, fun b o hb hgb => h.glob b o hb (hg b o hgb), hdom, fun b b' o o' h1 h2 he => h.inj b b' o o' (hg b o h1) (hg b' o' h2) he, fun b o hb => ?_⟩
    obtain ⟨n, t, rfl, hpt⟩ := hp b o hb
    obtain ⟨cs, ty, fr, e1, e2, e3, e4, _⟩ := h.obj b _ (hg b _ hb)
    refine ⟨cs, ty, fr, e1, e2, e3, fun i hi1 hi2 => ?_, fun e => by cases e⟩
    obtain ⟨x, v, g1, g2, g3, g4⟩ := e4 i hi1 hi2
    exact ⟨x, v, g1, g2, g3, hpt i x hi2 g1 _ _ _ g4⟩
  have hat : At (fun _ => none) (fun _ => False) Hi Sr := ⟨fun b => by show Hi.t.get b = _; cases Hi.t.get b <;> rfl, fun _ _ h => (by cases h), fun _ h => h, fun _ h => h.elim⟩
  refine (hcall B _ _ Sr [] .nil hrel hat).mono fun e w' hq => ?_
  cases e with
  | panicked c => exact hq.elim
  | outgrown => exact hq.elim
  | returned v' =>
    obtain ⟨S', rfl, h1, h2⟩ := hq
    have hsame : ∀ k, k < S.w.heap.size → S'.w.heap[k]? = S.w.heap[k]? := by
      intro k hk
      by_cases hkB : k < B
      · exact h2.stp.below.block k hkB
      · refine (h2.stp.frm k hk fun b o hb => ?_).1
        have hm := h.glob b o (hlt b o hb) (hg b o hb)
        show (S.μ b).1 ≠ k
        rw [hm]
        have := hlt b o hb
        have := h.gb
        simp only
        omega
    exact ⟨⟨S.H, S.μ, S'.w⟩, rfl, hr _ _ _ h1, behind_same h hH h2.stp.below hsame⟩
end

/-- What is known of calls without arguments, over a table in block 0. -/
noncomputable def know (n : Nat) (t : Tr AV) (l : List (Nat × Bool)) : FuncId → List AV → AHeap → Option (AV × AHeap) := fun f args H =>
  match args with
  | [] => ob (knowOf l f) fun b => ob (H.t.get 0) fun
    | .cells m u (.fixed true) => chk (Nat.beq m n && trEq 60 u t) (some (.bool b, H))
    | _ => none
  | _ => none
where
  knowOf : List (Nat × Bool) → Nat → Option Bool
    | [], _ => none
    | (g, b) :: r, f => cond (Nat.beq g f) (some b) (knowOf r f)
theorem knowOf_mem {f : Nat} {b : Bool} : ∀ {l : List (Nat × Bool)}, know.knowOf l f = some b → (f, b) ∈ l := by
  intro l
  induction l with
  | nil => intro h; cases h
  | cons p l ih =>
    obtain ⟨g, c⟩ := p
    intro h
    simp only [know.knowOf, cond_eq] at h
    split at h
    · rename_i hb
      have : g = f := by simpa using hb
      subst this; cases h; exact .head _
    · exact .tail _ (ih h)
/-- The heap that holds the table alone. -/
noncomputable def tabHeap (G : Nat) (zs : List Int) : AHeap := ⟨G, .node .nil (some (.cells zs.length (tabTr zs 0 .nil) (.fixed true))) .nil⟩
theorem tabHeap_get {G : Nat} {zs : List Int} {b : Nat} {o : AO} (h : (tabHeap G zs).t.get b = some o) : b = 0 ∧ o = .cells zs.length (tabTr zs 0 .nil) (.fixed true) := by
  rw [tabHeap, Tr.get_one] at h
  split at h
  · cases h; exact ⟨‹_›, rfl⟩
  · cases h
theorem know_ok {P : Program} {zs : List Int} {l : List (Nat × Bool)} (hG : 0 < P.globals.size) {K : Kx} (hK : KOK P K)
    (hl : ∀ f b, (f, b) ∈ l → ∃ H', K.call f [] (tabHeap P.globals.size zs) = some (.bool b, H')) :
    ∀ f args H r H', know zs.length (tabTr zs 0 .nil) l f args H = some (r, H') → (∃ fn c, P.funcs[f]? = some fn ∧ fn.body = some c) ∧ ∀ B E R S args', VRels S args args' → Rel P.globals.size B S → At E R H S →
      CallsIn Fence.wide 0 P f args'.toArray S.w (CallR P B E R S r H') := by
  intro f args H r H' he
  unfold know at he
  split at he
  · simp only [ob_eq] at he
    obtain ⟨b, hb, o, ho, he⟩ := he
    split at he
    · rename_i m u
      simp only [chk_eq, Option.some.injEq, Prod.mk.injEq, Bool.and_eq_true] at he
      obtain ⟨⟨h1, h2⟩, rfl, rfl⟩ := he
      have h1 : m = zs.length := by simpa using h1
      have h2 := (eq_all 60).2.2 _ _ h2
      subst h1 h2
      obtain ⟨H1, hc⟩ := hl f b (knowOf_mem hb)
      obtain ⟨p1, p2⟩ := pure_call hK rfl (fun b o hb => by obtain ⟨rfl, _⟩ := tabHeap_get hb; exact hG) (fun b o hb => by
        obtain ⟨_, rfl⟩ := tabHeap_get hb
        refine ⟨_, _, rfl, fun i x hi hx => ?_⟩
        rw [tabTr_get, if_pos (by omega)] at hx
        simp only [Nat.sub_zero, Option.map_eq_some_iff] at hx
        obtain ⟨z, _, rfl⟩ := hx
        exact pure_int _ _) (pure_bool b) hc
      exact ⟨p1, fun B E R S args' hv h hH => p2 H (fun b' o' hb' => by obtain ⟨rfl, rfl⟩ := tabHeap_get hb'; exact ho) B E R S args' hv h hH⟩
    · cases he
  · cases he
end Go.Ev
