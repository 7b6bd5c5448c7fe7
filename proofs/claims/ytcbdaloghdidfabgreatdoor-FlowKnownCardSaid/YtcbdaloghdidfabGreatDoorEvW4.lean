/- PART OF A PROOF: an evaluator over the model (its own text), and that it is sound: what it reckons, the machine does. No condition. -/
import Derived.Test.YtcbdaloghdidfabGreatDoorEvW3
namespace Go.Ev
open Go.RowKit
section
variable {P : Program} {B : Nat} {S : Wd} {E : Nat → Option AO} {R : Nat → Prop} {H H' : AHeap}

theorem copy_run {t ty : TypeId} {ats : Array TypeId} {d x r : AV} {vd vx : Value} (h0 : ats[0]? = some t) (h : Rel P.globals.size B S) (hH : At E R H S) (hd : VRel S d vd) (hx : VRel S x vx) (he : copyA P H t d x = some (r, H')) :
    WRun P B E R S H' r (Builtin.copy_ ats ty #[vd, vx]) := by
  simp only [copyA, ob_eq] at he
  obtain ⟨dsc, ht, he⟩ := he
  split at he
  · rename_i e
    simp only [ob_eq] at he
    obtain ⟨size, hsz, he⟩ := he
    have hsr := fun w => size_run (w := w) hsz
    split at he
    · cases hd
      split at he
      · cases he
        cases hx
        exact ⟨_, S, by simp [Builtin.copy_, h0, und_run ht, hsr, Builtin.lenOf, Builtin.firstCells, goInt], .int _ _, h, Stp.refl _ _, hH⟩
      · cases he
        cases hx
        exact ⟨_, S, by simp [Builtin.copy_, h0, und_run ht, hsr, Builtin.lenOf, Builtin.firstCells, goInt, loadCells, loadCellsFrom], .int _ _, h, Stp.refl _ _, hH⟩
      · cases he
    · rename_i a dl dcap dopn
      cases hd
      rename_i c cap' hA hC
      split at he
      · cases he
        cases hx
        exact ⟨_, S, by simp [Builtin.copy_, h0, und_run ht, hsr, Builtin.lenOf, Builtin.firstCells, goInt, storeCells], .int _ _, h, Stp.refl _ _, hH⟩
      · rename_i b l bcap bopn
        cases hx
        rename_i c2 cap2 hA2 hC2
        simp only [cond_eq] at he
        split at he
        · rename_i hm
          have hm : min l dl = 0 := by simpa using hm
          cases he
          exact ⟨_, S, by simp [Builtin.copy_, h0, und_run ht, hsr, Builtin.lenOf, Builtin.firstCells, goInt, loadCells, Nat.min_def] <;> (have := hm; simp only [Nat.min_def] at this; simp [this, loadCellsFrom, storeCells]), .int _ _, h, Stp.refl _ _, hH⟩
        · simp only [ob_eq, Option.some.injEq, Prod.mk.injEq] at he
          obtain ⟨src, hsrc, H1, hw, rfl, rfl⟩ := he
          obtain ⟨cs, hs⟩ := rdCells_rel h hA2 hH hsrc
          obtain ⟨S', r1, r2, r3, r4⟩ := wrCells_rel (P := P) h hA hH hw hs.vals
          have hl := run_loadCells_list (P := P) S.w c2 cs hs.2.1
          rw [hs.1] at hl
          refine ⟨_, S', ?_, .int _ _, r3, r4, r2⟩
          simp only [Builtin.copy_, List.getElem?_toArray, h0]
          simp [und_run ht, hsr, Builtin.lenOf, Builtin.firstCells, goInt, show Nat.min l dl = min l dl from rfl, hl, r1]
      · cases he
    · cases he
  · cases he

/-- A map has turned. -/
def Wd.mapd (S : Wd) (b : Nat) (es : List (AV × AV)) (o : Obj) : Wd := ⟨S.H.put b (.map es), S.μ, S.w.putObj (S.μ b).1 o⟩
theorem sameBits_run {n : Nat} {k x : AV} {v u : Value} (hk : VRel S k v) (hx : VRel S x u) (h : keyEq k x = some true) : Instr.sameBits n u v = true := by
  unfold keyEq at h
  split at h
  · split at h
    · rename_i e
      subst e
      simp only [Option.some.injEq, beq_iff_eq] at h
      subst h
      cases hk; cases hx
      cases n <;> simp [Instr.sameBits]
    · cases h
  · simp only [Option.some.injEq] at h
    rename_i a b
    have : a = b := (MapKept.bytes_beq a b).1 h
    subst this
    cases hk; cases hx
    cases n <;> (simp only [Instr.sameBits]; exact h)
  · simp only [Option.some.injEq, beq_iff_eq] at h
    subst h
    cases hk; cases hx
    cases n <;> simp [Instr.sameBits]
  · cases h
theorem upd_run {kd : TypeDesc} {k x : AV} {v u : Value} (hf : keyFits kd k = true) (hk : VRel S k v) (hx : VRel S x u) (ht : notTup x = true) {ck : Nat} : ∀ {es : List (AV × AV)} {es' : List MapEntry} {i : Nat} {r : List (AV × AV)}, ERel S es es' → upd k x es = some r →
    (∃ j e, Instr.findNow kd v es' i = some (some (i + j, e.val)) ∧ es'[j]? = some e ∧ Instr.sameBits 10000 e.key v = true ∧ ERel S r (es'.modify j fun e => { e with key := v, val := u })) ∨
      (Instr.findNow kd v es' i = some none ∧ ERel S r (es' ++ [{ key := v, val := u, born := ck }])) := by
  intro es
  induction es with
  | nil =>
    intro es' i r he h
    cases es' with
    | nil => cases h; exact .inr ⟨rfl, hk, hx, ht, trivial⟩
    | cons _ _ => exact he.elim
  | cons p es ih =>
    intro es' i r he h
    cases es' with
    | nil => obtain ⟨a, b⟩ := p; exact he.elim
    | cons e es' =>
      obtain ⟨y, z⟩ := p
      obtain ⟨h1, h2, h3, h4⟩ := he
      simp only [upd, ob_eq] at h
      obtain ⟨b, hb, h⟩ := h
      have hs := same_run hf hk h1 hb
      cases b with
      | true =>
        cases h
        exact .inl ⟨0, e, by simp [Instr.findNow, hs], rfl, sameBits_run hk h1 hb, by simp; exact ⟨hk, hx, ht, h4⟩⟩
      | false =>
        simp only [ob_eq, Option.some.injEq] at h
        obtain ⟨r', hr, rfl⟩ := h
        rcases ih h4 hr (i := i + 1) with ⟨j, e', f1, f2, f3, f4⟩ | ⟨f1, f2⟩
        · refine .inl ⟨j + 1, e', ?_, by simpa using f2, f3, ?_⟩
          · simp only [Instr.findNow, hs]; rw [f1]; congr 3; omega
          · simp only [List.modify_succ_cons]; exact ⟨h1, h2, h3, f4⟩
        · exact .inr ⟨by simp only [Instr.findNow, hs]; exact f1, h1, h2, h3, f2⟩
theorem turn_mapd {b : Nat} {es : List (AV × AV)} {o : Obj} : Turn S (S.mapd b es o) b where
  g := fun x hx => by simp [Wd.mapd, SH.put, hx]
  nx := rfl
  μ := fun _ _ => rfl
  μb := rfl
  heap := fun k hk => World.putObj_heap_other hk
  size := World.putObj_size
  os := rfl
  tape := rfl
  output := rfl
theorem mapd_g {b : Nat} {es : List (AV × AV)} {o : Obj} : (S.mapd b es o).H.g b = some (.map es) := by simp [Wd.mapd, SH.put]
theorem mapd_ok {G b ck : Nat} {es es2 : List (AV × AV)} {es' : Array MapEntry} (h : Rel G B S) (hg : S.H.g b = some (.map es)) (hB : B ≤ (S.μ b).1) (he : ERel S es2 es'.toList) :
    Rel G B (S.mapd b es2 (.map es' ck)) ∧ Stp B S (S.mapd b es2 (.map es' ck)) := by
  have T : Turn S (S.mapd b es2 (.map es' ck)) b := turn_mapd
  have sp : Stp B S (S.mapd b es2 (.map es' ck)) := by
    refine stp_turn h T hg hB ?_ ?_ (fun _ _ _ => ⟨_, hg, rfl⟩) ?_
    · rintro a c rfl hA
      exact ⟨hA.lt, hA.base, hA.spot, fun n t k hk => by rw [mapd_g] at hk; cases hk⟩
    · rintro a len cap opn c cap' rfl hA hC
      exact ⟨hC.le, hC.exact, hC.ge, fun _ m u s l hk => by rw [mapd_g] at hk; cases hk⟩
    · intro l hk; rw [mapd_g] at hk; cases hk
  refine ⟨rel_turn h T hg sp.later (fun hb => h.glob b _ hb hg) fun o' ho => ?_, sp⟩
  rw [mapd_g] at ho
  cases ho
  exact ⟨es', ck, World.putObj_heap_same (h.lt hg), he.later sp.later, hB⟩
theorem mapUpd_run {t : TypeId} {m k x : AV} {vm vk vx : Value} (h : Rel P.globals.size B S) (hH : At E R H S) (hm : VRel S m vm) (hk : VRel S k vk) (hx : VRel S x vx)
    (he : mapUpd P H t m k x = some H') : ∃ S', (Instr.mapUpdate t vm vk vx).run P S.w = .ok () S'.w ∧ Rel P.globals.size B S' ∧ Stp B S S' ∧ At E R H' S' := by
  simp only [mapUpd, ob_eq] at he
  obtain ⟨d, hd, he⟩ := he
  split at he
  · rename_i kt e
    simp only [ob_eq, chk_eq, Bool.and_eq_true] at he
    obtain ⟨kd, hkd, ⟨hf, hnt⟩, he⟩ := he
    split at he
    · rename_i r
      simp only [ob_eq] at he
      obtain ⟨o, ho, he⟩ := he
      split at he
      · simp only [ob_eq, Option.some.injEq] at he
        obtain ⟨es2, hu, rfl⟩ := he
        rename_i es
        have hg := hH.get ho
        cases hm
        rename_i r' hM
        obtain ⟨es', ck, e1, e2, e3⟩ := h.obj _ _ hg
        obtain rfl := hM.at_ _ hg rfl
        have hc := checkKey_run (b := false) (n := 9999) (w := S.w) hkd hf hk
        have hgo := MapKept.run_getObj_map (P := P) e1
        have hso := fun o => MapKept.run_setObj_map (P := P) o e1
        rcases upd_run hf hk hx hnt e2 hu (i := 0) (ck := ck) with ⟨j, en, f1, f2, f3, f4⟩ | ⟨f1, f2⟩
        · obtain ⟨r1, r2⟩ := mapd_ok (es' := es'.modify j fun e => { e with key := vk, val := vx }) (ck := ck) h hg e3 (by rw [Array.toList_modify]; exact f4)
          refine ⟨_, ?_, r1, r2, hH.turn ho turn_mapd mapd_g⟩
          have f2' : es'[j]? = some en := by simpa using f2
          simp [Instr.mapUpdate, und_run hd, und_run hkd, hgo, hc, Instr.findKey, f1, f2', Instr.keyThatStays, f3, hso]
          rfl
        · obtain ⟨r1, r2⟩ := mapd_ok (es' := es'.push { key := vk, val := vx, born := ck }) (ck := ck + 1) h hg e3 (by rw [Array.toList_push]; exact f2)
          refine ⟨_, ?_, r1, r2, hH.turn ho turn_mapd mapd_g⟩
          simp [Instr.mapUpdate, und_run hd, und_run hkd, hgo, hc, Instr.findKey, f1, hso]
          rfl
      · cases he
    · cases he
  · cases he
end
end Go.Ev
