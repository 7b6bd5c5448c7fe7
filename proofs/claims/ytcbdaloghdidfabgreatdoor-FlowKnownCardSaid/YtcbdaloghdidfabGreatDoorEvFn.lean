/- PART OF A PROOF: an evaluator over the model (its own text), and that it is sound: what it reckons, the machine does. No condition. -/
import Derived.Test.YtcbdaloghdidfabGreatDoorEvCode
namespace Go.Ev
open Go.RowKit
section
variable {P : Program} {K : Kx} {B : Nat} {S : Wd} {E : Nat → Option AO} {R : Nat → Prop} {H H' : AHeap} {a : Act} {tm : Tr AV}

/-! ### The mark is come to -/
def Wd.shutd (S : Wd) (b : Nat) : Wd := ⟨S.H.put b .shut, S.μ, S.w.putObj (S.μ b).1 (.deferred none)⟩
theorem turn_shutd {b : Nat} : Turn S (S.shutd b) b where
  g := fun x hx => by simp [Wd.shutd, SH.put, hx]
  nx := rfl
  μ := fun _ _ => rfl
  μb := rfl
  heap := fun k hk => World.putObj_heap_other hk
  size := World.putObj_size
  os := rfl
  tape := rfl
  output := rfl
theorem shutd_g {b : Nat} : (S.shutd b).H.g b = some .shut := by simp [Wd.shutd, SH.put]
theorem shutd_ok {b : Nat} (h : Rel P.globals.size B S) (hH : At E R H S) (hg : H.t.get b = some .dfr) : Behind P B E R S (putH H b .shut) (S.shutd b) := by
  have hg' := hH.get hg
  obtain ⟨hr, hB⟩ := h.obj _ _ hg'
  have T : Turn S (S.shutd b) b := turn_shutd
  have sp : Stp B S (S.shutd b) := by
    refine stp_turn h T hg' hB ?_ ?_ ?_ ?_
    · rintro a c rfl hA
      exact ⟨hA.lt, hA.base, hA.spot, fun n t k hk => by rw [shutd_g] at hk; cases hk⟩
    · rintro a len cap opn c cap' rfl hA hC
      exact ⟨hC.le, hC.exact, hC.ge, fun _ m u s l hk => by rw [shutd_g] at hk; cases hk⟩
    · intro o hk hi; rw [shutd_g] at hk; cases hk; cases hi
    · intro o hk; rw [shutd_g] at hk; cases hk
  refine ⟨rel_turn h T hg' sp.later (fun hb => h.glob b _ hb hg') fun o' ho => ?_, sp, hH.turn hg turn_shutd shutd_g⟩
  rw [shutd_g] at ho
  cases ho
  exact ⟨World.putObj_heap_same (h.lt hg'), hB⟩

theorem leaves_run {fn : Func} {tmps : Array Value} {Q : Ending → World → Prop} : ∀ (df : List Nat) (ds : List Deferred) (H H' : AHeap) (S : Wd), Rel P.globals.size B S → At E R H S → DfRel S df ds → shutAll df H = some H' →
    (∀ S', Behind P B E R S H' S' → ∃ v, (results fn tmps).run P S'.w = .ok v S'.w ∧ Q (.returned v) S'.w) → LeavesInM Fence.wide 0 P fn tmps Q ds .returning S.w := by
  intro df
  induction df with
  | nil =>
    intro ds H H' S h hH hd he hQ
    cases ds with
    | cons _ _ => exact hd.elim
    | nil =>
      cases he
      exact hQ S (.refl h hH)
  | cons b df ih =>
    intro ds H H' S h hH hd he hQ
    cases ds with
    | nil => exact hd.elim
    | cons d ds =>
      obtain ⟨⟨r, rfl, hm⟩, hd⟩ := hd
      simp only [shutAll, ob_eq] at he
      obtain ⟨o, ho, he⟩ := he
      split at he
      · have hg := hH.get ho
        obtain rfl := hm.at_ _ hg rfl
        obtain ⟨hr, hB⟩ := h.obj _ _ hg
        have b1 := shutd_ok h hH ho
        refine ⟨by simp, .inl ⟨_, _, rfl, run_takeDeferred hr, ?_⟩⟩
        exact ih ds _ H' (S.shutd b) b1.rel b1.at_ (hd.later b1.stp.later) he fun S' hb' => hQ S' (b1.trans hb')
      · cases he

def resStep (tmps : Array Value) : ResultVar → Sem Value
  | .tmp t => pure (tmps.getD t undef)
  | .cell a t => do loadVar t (← asAddr (tmps.getD a undef))
theorem resOne_run {s : AS} {rv : ResultVar} {v : AV} (h : Rel P.globals.size B S) (hH : At E R s.H S) (ht : TmRel S s.tm.get a.tmps) (he : resOne P s rv = some v) :
    ∃ v', (resStep a.tmps rv).run P S.w = .ok v' S.w ∧ VRel S v v' := by
  cases rv with
  | tmp t => exact ⟨_, rfl, (ht t v he).2⟩
  | cell x t =>
    simp only [resOne, ob_eq] at he
    obtain ⟨p, hp, he⟩ := he
    have hx := (ht x p hp).2
    generalize hu : a.tmps.getD x undef = u at hx
    split at he
    · cases hx
      rename_i c hA
      obtain ⟨v', r1, r2⟩ := load_rel (P := P) h hA hH he
      exact ⟨v', by simp [resStep, hu, asAddr, r1], r2⟩
    · cases he
theorem resAll_run {s : AS} (h : Rel P.globals.size B S) (hH : At E R s.H S) (ht : TmRel S s.tm.get a.tmps) : ∀ {rs : List ResultVar} {vs : List AV}, resAll P s rs = some vs →
    ∃ vs', (rs.mapM (resStep a.tmps)).run P S.w = .ok vs' S.w ∧ VRels S vs vs' := by
  intro rs
  induction rs with
  | nil => intro vs he; cases he; exact ⟨[], rfl, .nil⟩
  | cons r rs ih =>
    intro vs he
    simp only [resAll, ob_eq, Option.some.injEq] at he
    obtain ⟨v, hv, vs1, hvs, rfl⟩ := he
    obtain ⟨v', r1, r2⟩ := resOne_run h hH ht hv
    obtain ⟨vs', r3, r4⟩ := ih hvs
    refine ⟨v' :: vs', ?_, .cons _ _ _ _ r2 r4⟩
    simp only [List.mapM_cons, Sem.run_bind, r1, Result.andThen_ok, r3, Sem.run_pure]
theorem results_eq (fn : Func) (tmps : Array Value) : results fn tmps = (do let vs ← fn.results.mapM (resStep tmps); pure (if h : vs.size = 1 then vs[0] else .tuple vs)) := by
  unfold results
  congr 1
theorem resOf_run {fn : Func} {s : AS} {v : AV} (h : Rel P.globals.size B S) (hH : At E R s.H S) (ht : TmRel S s.tm.get a.tmps) (he : resOf P fn s = some v) :
    ∃ v', (results fn a.tmps).run P S.w = .ok v' S.w ∧ VRel S v v' := by
  simp only [resOf, ob_eq] at he
  obtain ⟨vs, hvs, he⟩ := he
  obtain ⟨vs', r1, r2⟩ := resAll_run h hH ht hvs
  have hrun : (results fn a.tmps).run P S.w = .ok (if h : vs'.toArray.size = 1 then vs'.toArray[0] else .tuple vs'.toArray) S.w := by
    rw [results_eq, Array.mapM_eq_mapM_toList]
    simp only [Sem.run_bind, Sem.run_map, r1, Result.andThen_ok, Sem.run_pure]
  refine ⟨_, hrun, ?_⟩
  cases r2 with
  | nil => cases he; simpa using VRel.tup [] [] .nil
  | cons x u xs us hx hs =>
    cases hs with
    | nil => cases he; simpa using hx
    | cons y t ys ts hy hs =>
      have hne : ¬ (u :: t :: ts).toArray.size = 1 := by simp
      rw [dif_neg hne]
      cases he
      exact .tup _ _ (.cons _ _ _ _ hx (.cons _ _ _ _ hy hs))

/-! ### Functions -/
theorem bindA_get : ∀ {l : List AV} {i : Nat} {t : Tr AV} (k : Nat), (bindA l i t).get k = if i ≤ k ∧ k < i + l.length then l[k - i]? else t.get k := by
  intro l
  induction l with
  | nil => intro i t k; rw [if_neg (by simp only [List.length_nil]; omega)]; rfl
  | cons v l ih =>
    intro i t k
    rw [bindA, ih, Tr.get_set]
    by_cases h : k = i
    · subst h; rw [if_neg (by omega), if_pos rfl, if_pos (by simp)]; simp
    · rw [if_neg h]
      by_cases h2 : i + 1 ≤ k ∧ k < i + 1 + l.length
      · rw [if_pos h2, if_pos (by simp; omega), show k - i = (k - (i + 1)) + 1 by omega, List.getElem?_cons_succ]
      · rw [if_neg h2, if_neg (by simp; omega)]
theorem vrels_get {xs : List AV} {vs : List Value} (h : VRels S xs vs) (i : Nat) (x : AV) (hx : xs[i]? = some x) : ∃ v, vs[i]? = some v ∧ VRel S x v := vrels_toList h i x hx
theorem fn_run (hK : KOK P K) (hD : DrawOK P K) {lf : Nat} {f : FuncId} {args : List AV} {r : AV} (he : evFn P K lf f args H = some (r, H')) :
    (∃ fn c, P.funcs[f]? = some fn ∧ fn.body = some c) ∧ ∀ B E R S args', VRels S args args' → Rel P.globals.size B S → At E R H S → CallsIn Fence.wide 0 P f args'.toArray S.w (CallR P B E R S r H') := by
  simp only [evFn, ob_eq, chk_eq] at he
  obtain ⟨fn, hfn, c, hc, hle, ⟨e, s⟩, hcode, hleft, H1, hshut, v, hres, he⟩ := he
  simp only [Option.some.injEq, Prod.mk.injEq] at he
  obtain ⟨rfl, rfl⟩ := he
  have hle : args.length ≤ fn.ntmps := by simpa using hle
  refine ⟨⟨fn, c, hfn, hc⟩, fun B E R S args' hv h hH => ?_⟩
  have hlen := hv.length
  refine callsIn_of_wp_marks hfn hc trivial ?_
  have hsz : (args'.toArray ++ Array.replicate (fn.ntmps - args'.toArray.size) undef).size = fn.ntmps := by simp; omega
  have ht : TmRel S (bindA args 0 .nil).get (args'.toArray ++ Array.replicate (fn.ntmps - args'.toArray.size) undef) := by
    intro d x hx
    rw [bindA_get] at hx
    by_cases hd : 0 ≤ d ∧ d < 0 + args.length
    · rw [if_pos hd] at hx
      obtain ⟨u, hu, hr⟩ := vrels_get hv _ _ hx
      refine ⟨by rw [hsz]; have := hd.2; show @LT.lt Nat _ d fn.ntmps; omega, ?_⟩
      have e1 : (args'.toArray ++ Array.replicate (fn.ntmps - args'.toArray.size) undef)[d]? = some u := by
        have hlt : @LT.lt Nat _ d args'.length := by have := hd.2; omega
        rw [Array.getElem?_append_left (by simpa using hlt)]
        simpa using hu
      rw [Array.getD_eq_getD_getElem?, e1]
      exact hr
    · rw [if_neg hd] at hx
      cases hx
  refine wpIn_mono (code_run hK hD c _ _ _ hcode B E R S { tmps := args'.toArray ++ Array.replicate (fn.ntmps - args'.toArray.size) undef, defers := [] } none h hH ht hsz trivial trivial) fun e' a' w' hq => ?_
  obtain ⟨rfl, S1, rfl, b1, t1, n1, d1⟩ := hq
  have fin : LeavesInM Fence.wide 0 P fn a'.tmps (CallR P B E R S v H1) a'.defers .returning S1.w :=
    leaves_run s.df a'.defers s.H H1 S1 b1.rel b1.at_ d1 hshut fun S2 b2 => by
      obtain ⟨v', r1, r2⟩ := resOf_run (s := ⟨s.tm, H1, []⟩) b2.rel b2.at_ (t1.later b2.stp.later) hres
      exact ⟨v', r1, S2, rfl, r2, b1.trans b2⟩
  cases e with
  | normal => exact fin
  | ret => exact fin
  | exit id => cases hleft
  | goto l => cases hleft

/-- The evaluator is sound, however deep. -/
theorem kx_ok {N O : FuncId → List AV → AHeap → Option (AV × AHeap)} {lf : Nat} (hN : NumOK P) (hD : ∀ K, KOK P K → DrawOK P K)
    (hnat : ∀ f args H r H', N f args H = some (r, H') → ∀ B E R S args', VRels S args args' → Rel P.globals.size B S → At E R H S →
      ∃ v' S', (callFunc f args'.toArray).run P S.w = .ok (.value v') S'.w ∧ VRel S' r v' ∧ Behind P B E R S H' S')
    (hO : ∀ f args H r H', O f args H = some (r, H') → (∃ fn c, P.funcs[f]? = some fn ∧ fn.body = some c) ∧ ∀ B E R S args', VRels S args args' → Rel P.globals.size B S → At E R H S →
      CallsIn Fence.wide 0 P f args'.toArray S.w (CallR P B E R S r H')) : ∀ n, KOK P (kx P N O lf n) := by
  intro n
  induction n with
  | zero => exact ⟨hN, hnat, hO, fun l nt c s e s' he => by cases he⟩
  | succ n ih =>
    refine ⟨hN, hnat, fun f args H r H' he => ?_, fun l nt c s e s' he => code_run ih (hD _ ih) c s e s' he⟩
    simp only [kx, orE] at he
    split at he
    · rename_i x hx
      cases he
      exact hO _ _ _ _ _ hx
    · exact fn_run ih (hD _ ih) he
end
end Go.Ev
