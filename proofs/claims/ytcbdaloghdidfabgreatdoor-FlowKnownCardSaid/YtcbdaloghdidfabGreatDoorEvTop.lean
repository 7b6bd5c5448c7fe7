/- PART OF A PROOF: an evaluator over the model (its own text), and that it is sound: what it reckons, the machine does. No condition. -/
import Derived.Test.YtcbdaloghdidfabGreatDoorEvD6
import Derived.Laws.Externs
import Derived.ChangeSame
import Derived.Lib.LaidTab
namespace Go.Ev
open Go.RowKit

/-! ### Functions without a body: math/bits.Add64, Sub64 -/
noncomputable def nat64 (fa fs : FuncId) : FuncId → List AV → AHeap → Option (AV × AHeap) := fun f args H =>
  match args with
  | [.int .u64 x, .int .u64 y, .int .u64 c] =>
    chk (decide (0 ≤ x) && decide (0 ≤ y) && decide (0 ≤ c) && decide (c ≤ 1))
      (cond (Nat.beq f fa) (some (.tup [.int .u64 ((x + y + c) % 18446744073709551616), .int .u64 ((x + y + c) / 18446744073709551616)], H))
        (cond (Nat.beq f fs) (some (.tup [.int .u64 (((x.toNat + 18446744073709551616 - y.toNat - c.toNat) % 18446744073709551616 : Nat) : Int), .int .u64 (cond (Nat.blt x.toNat (y.toNat + c.toNat)) 1 0)], H)) none))
  | _ => none
theorem nat64_ok {P : Program} {fa fs : FuncId} (ha : ∀ (x y c : Int), 0 ≤ x → 0 ≤ y → 0 ≤ c → c ≤ 1 → ∀ w, (callFunc fa #[.int .u64 x, .int .u64 y, .int .u64 c]).run P w = .ok (.value (.tuple #[.int .u64 ((x + y + c) % 18446744073709551616), .int .u64 ((x + y + c) / 18446744073709551616)])) w)
    (hs : ∀ (x y c : Nat), c ≤ 1 → ∀ w, (callFunc fs #[.int .u64 x, .int .u64 y, .int .u64 c]).run P w = .ok (.value (.tuple #[.int .u64 (((x + 18446744073709551616 - y - c) % 18446744073709551616 : Nat) : Int), .int .u64 ((if x < y + c then 1 else 0 : Nat) : Int)])) w) :
    ∀ f args H r H', nat64 fa fs f args H = some (r, H') → ∀ B E R S args', VRels S args args' → Rel P.globals.size B S → At E R H S →
      ∃ v' S', (callFunc f args'.toArray).run P S.w = .ok (.value v') S'.w ∧ VRel S' r v' ∧ Behind P B E R S H' S' := by
  intro f args H r H' he B E R S args' hv h hH
  unfold nat64 at he
  split at he
  · rename_i x y c
    simp only [chk_eq, Bool.and_eq_true, decide_eq_true_eq, cond_eq] at he
    obtain ⟨⟨⟨⟨hx, hy⟩, hc0⟩, hc⟩, he⟩ := he
    cases hv with | cons _ _ _ _ v1 r1 => cases r1 with | cons _ _ _ _ v2 r2 => cases r2 with | cons _ _ _ _ v3 r3 =>
    cases r3
    cases v1; cases v2; cases v3
    split at he
    · rename_i hb
      have hb : f = fa := by simpa using hb
      subst hb
      cases he
      exact ⟨_, S, ha x y c hx hy hc0 hc S.w, .tup _ [_, _] (.cons _ _ _ _ (.int _ _) (.cons _ _ _ _ (.int _ _) .nil)), .refl h hH⟩
    · split at he
      · rename_i hb
        have hb : f = fs := by simpa using hb
        subst hb
        cases he
        obtain ⟨X, rfl⟩ := Int.eq_ofNat_of_zero_le hx
        obtain ⟨Y, rfl⟩ := Int.eq_ofNat_of_zero_le hy
        obtain ⟨C, rfl⟩ := Int.eq_ofNat_of_zero_le hc0
        refine ⟨_, S, hs X Y C (by omega) S.w, .tup _ [_, _] (.cons _ _ _ _ (.int _ _) (.cons _ _ _ _ ?_ .nil)), .refl h hH⟩
        have e : (if Nat.blt (X : Int).toNat ((Y : Int).toNat + (C : Int).toNat) = true then 1 else 0 : Int) = ((if X < Y + C then 1 else 0 : Nat) : Int) := by
          simp only [Int.toNat_natCast]
          have e2 : (Nat.blt X (Y + C) = true) = (X < Y + C) := propext ⟨fun h => Nat.le_of_ble_eq_true h, fun h => Nat.ble_eq_true_of_le h⟩
          simp only [e2]
          by_cases hlt : X < Y + C
          · rw [if_pos hlt, if_pos hlt]; rfl
          · rw [if_neg hlt, if_neg hlt]; rfl
        rw [e]
        exact .int _ _
      · cases he
  · cases he

/-! ### The whole -/
/-- A world as the evaluator begins: no block of the call's own; the blocks that it knows lie where they lie. -/
noncomputable def Wd.start (H : AHeap) (w : World) : Wd := ⟨⟨H.t.get, fun b => b < H.next⟩, fun b => (b, 0), w⟩
theorem start_rel {P : Program} {H : AHeap} {w : World} (hn : H.next = P.globals.size) (hw : P.globals.size ≤ w.heap.size) (hdom : ∀ b o, H.t.get b = some o → b < H.next)
    (hobj : ∀ b o, H.t.get b = some o → ObjRel (Wd.start H w) w.heap.size b o) : Rel P.globals.size w.heap.size (Wd.start H w) :=
  ⟨hw, Nat.le_refl _, fun b hb => by rw [← hn] at hb; exact hb, fun _ _ _ _ => rfl, hdom, fun _ _ _ _ _ _ h => h, hobj⟩
theorem start_at {H : AHeap} {w : World} : At (fun _ => none) (fun _ => False) H (Wd.start H w) :=
  ⟨fun b => by show H.t.get b = _; cases H.t.get b <;> rfl, fun _ _ h => (by cases h), fun _ h => h, fun _ h => h.elim⟩
noncomputable def isTrue (r : Option (AV × AHeap)) : Bool :=
  match r with
  | some (.bool true, _) => true
  | _ => false
/-- What the evaluator has reckoned, holds. -/
theorem closed_run {P : Program} {K : Kx} (hK : KOK P K) {H : AHeap} {w : World} (hn : H.next = P.globals.size) (hw : P.globals.size ≤ w.heap.size) (hdom : ∀ b o, H.t.get b = some o → b < H.next)
    (hobj : ∀ b o, H.t.get b = some o → ObjRel (Wd.start H w) w.heap.size b o) {f : FuncId} (h : isTrue (K.call f [] H) = true) :
    Calls P f #[] w fun e w' => e = .returned (.bool true) ∧ Below w.heap.size w w' := by
  unfold isTrue at h
  split at h
  · rename_i H' hc
    obtain ⟨_, hcall⟩ := hK.call _ _ _ _ _ hc
    have := hcall w.heap.size _ _ (Wd.start H w) [] .nil (start_rel hn hw hdom hobj) start_at
    refine (callsIn_wide.1 this).mono fun e w' hq => ?_
    cases e with
    | returned v' =>
      obtain ⟨S', rfl, h1, h2⟩ := hq
      cases h1
      exact ⟨rfl, h2.stp.below⟩
    | panicked c => exact hq.elim
    | outgrown => exact hq.elim
  · cases h

/-- An array of numbers as a block that is read alone. -/
noncomputable def tabTr : List Int → Nat → Tr AV → Tr AV
  | [], _, t => t
  | z :: zs, i, t => tabTr zs (i + 1) (t.set i (.int .i64 z))
theorem tabTr_get : ∀ {zs : List Int} {i : Nat} {t : Tr AV} (k : Nat), (tabTr zs i t).get k = if i ≤ k ∧ k < i + zs.length then (zs[k - i]?).map (AV.int .i64) else t.get k := by
  intro zs
  induction zs with
  | nil => intro i t k; rw [if_neg (by simp only [List.length_nil]; omega)]; rfl
  | cons z zs ih =>
    intro i t k
    rw [tabTr, ih, Tr.get_set]
    by_cases h : k = i
    · subst h; rw [if_neg (by omega), if_pos rfl, if_pos (by simp)]; simp
    · rw [if_neg h]
      by_cases h2 : i + 1 ≤ k ∧ k < i + 1 + zs.length
      · rw [if_pos h2, if_pos (by simp; omega), show k - i = (k - (i + 1)) + 1 by omega, List.getElem?_cons_succ]
      · rw [if_neg h2, if_neg (by simp; omega)]
theorem tab_obj {S : Wd} {B b : Nat} {zs : List Int} {ty : TypeId} {fr : Nat × Nat} (hμ : (S.μ b).2 = 0) (h : S.w.heap[(S.μ b).1]? = some (.cells (zs.map fun z => Value.int .i64 z).toArray ty fr)) :
    ObjRel S B b (.cells zs.length (tabTr zs 0 .nil) (.fixed true)) := by
  refine ⟨_, ty, fr, h, hμ, by simp, fun i _ hi => ?_, fun e => by cases e⟩
  refine ⟨.int .i64 zs[i], .int .i64 zs[i], ?_, rfl, ?_, .int _ _⟩
  · rw [tabTr_get, if_pos (by omega)]; simp [hi]
  · simp [hi]

/-! ### The row's word -/
open Go.ChangeShapes Go.WideShapes in
/-- 'post_of_same' where below the old heap's end nothing has turned. -/
theorem post_below {H : Type} {enc : TypeId × Value → H} {P : Program} {f : Func} {s : ChangeSpec} {apart fresh handsOn again : Bool} {W W' : World} {args : Array Value} {v : Value} {ds gs : List (DataW H)} {before pa pv : List MemPlace}
    (hW : DataW.Whole enc P f.params.toList s.vars apart W args.toList ds gs before)
    (hres : ∀ (b : Nat) (sp : Nat → Bool) (hd : Bool), DataW.TrodAll enc P W' b sp hd f.resultTypes.toList (v.resultList f.resultTypes.size) (s.fn H (ds ++ gs)).results [])
    (hargs : ∀ sp : Nat → Bool, (∀ p ∈ before, sp p.block = true) → DataW.TrodAll enc P W' 0 sp true f.params.toList args.toList (s.fn H (ds ++ gs)).args pa)
    (hvars : ∀ sp : Nat → Bool, (∀ p ∈ before, sp p.block = true) → DataW.TrodVars enc P W' sp s.vars (s.fn H (ds ++ gs)).vars pv)
    (hps : before = pa ++ pv) (hb : Below W.heap.size W W')
    (hok : ∀ (j : Nat) (t : TypeId) (r : Value), f.resultTypes[j]? = some t → (v.resultList f.resultTypes.size)[j]? = some r → Value.okWide P W' .any 0 t r) :
    s.post enc P f apart fresh handsOn again W args v W' := by
  have hold : ∀ p ∈ before, (fun b => decide (b < W.heap.size)) p.block = true := fun p hp => by simpa using hW.lt p hp
  have hlt := hW.lt
  refine ⟨ds, gs, before, [], pa, pv, hW, hres _ _ _, hargs _ hold, hvars _ hold, World.keptBut_mono (fun p hp => ⟨hp, ?_⟩) (hb.frame _), fun _ => ?_⟩
  · rw [hps, List.mem_append] at hp
    exact Or.inr hp
  · obtain ⟨_, _, _, _, _, hz, hn⟩ := hW
    refine ⟨hok, _, _, ([] ++ pa) ++ pv, ⟨[] ++ pa, pv, trodAll_append (hargs _ (fun _ _ => rfl)) (hres _ _ _), hvars _ (fun _ _ => rfl), rfl, ?_, ?_⟩, ?_⟩
    · intro b off hp
      have hin : .cell b off ∈ before := by rw [hps]; simpa using hp
      rw [hb.frozen (hlt _ hin)]
      exact hz b off hin
    · intro ha
      have := hn ha
      rw [hps] at this
      simpa using this
    · intro p hp _
      rw [hps]
      simpa using hp
end Go.Ev
