/- PART OF A PROOF: an evaluator over the model (its own text), and that it is sound: what it reckons, the machine does. No condition. -/
import Derived.Test.YtcbdaloghdidfabGreatDoorEvW4
import Derived.Test.YtcbdaloghdidfabGreatDoorEvDef2
namespace Go.Ev
open Go.RowKit

def Fw (r : Option Nat) : Fence := { Fence.wide with round := r }
theorem callsIn_fw {r : Option Nat} {n : Nat} {P : Program} {f : FuncId} {args : Array Value} {w : World} {R : Ending → World → Prop} (h : CallsIn Fence.wide n P f args w R) : CallsIn (Fw r) n P f args w R := h
theorem roundIn_fw {r : Option Nat} {n l : Nat} {P : Program} {f : FuncId} {tmps : Array Value} {x y : Code} {w : World} {R : Ending → World → Prop} (h : RoundIn Fence.wide n P l f tmps x y w R) : RoundIn (Fw r) n P l f tmps x y w R := h

def RoRel (S : Wd) : Option Nat → Option Nat → Prop
  | none, none => True
  | some l, some l' => FnRel S (.yield l) (.yield l')
  | _, _ => False
theorem RoRel.later {S S' : Wd} (L : Later S S') {ro r : Option Nat} (h : RoRel S ro r) : RoRel S' ro r := by
  cases ro <;> cases r <;> first | exact trivial | exact h.elim | exact L.f _ _ h
def DfRel (S : Wd) : List Nat → List Deferred → Prop
  | [], [] => True
  | b :: df, d :: ds => (∃ r, d = { target := .collected r, args := #[] } ∧ MRel S b r) ∧ DfRel S df ds
  | _, _ => False
theorem DfRel.later {S S' : Wd} (L : Later S S') : ∀ {df : List Nat} {ds : List Deferred}, DfRel S df ds → DfRel S' df ds
  | [], [], _ => trivial
  | _ :: _, _ :: _, ⟨⟨r, e, h⟩, hs⟩ => ⟨⟨r, e, L.m _ _ h⟩, DfRel.later L hs⟩
  | [], _ :: _, h => h.elim
  | _ :: _, [], h => h.elim

def exOf : Ex → Exit
  | .normal => .normal
  | .exit id => .exit id
  | .goto l => .goto l
  | .ret => .ret

/-- What holds of the state behind. -/
structure Behind (P : Program) (B : Nat) (E : Nat → Option AO) (R : Nat → Prop) (S : Wd) (H' : AHeap) (S' : Wd) : Prop where
  rel : Rel P.globals.size B S'
  stp : Stp B S S'
  at_ : At E R H' S'

def CallR (P : Program) (B : Nat) (E : Nat → Option AO) (R : Nat → Prop) (S : Wd) (r : AV) (H' : AHeap) : Ending → World → Prop
  | .returned v', w' => ∃ S', S'.w = w' ∧ VRel S' r v' ∧ Behind P B E R S H' S'
  | _, _ => False
def Post (P : Program) (B : Nat) (E : Nat → Option AO) (R : Nat → Prop) (S : Wd) (nt : Nat) (e : Ex) (s : AS) (e' : Exit) (a' : Act) (w' : World) : Prop :=
  e' = exOf e ∧ ∃ S', S'.w = w' ∧ Behind P B E R S s.H S' ∧ TmRel S' s.tm.get a'.tmps ∧ a'.tmps.size = nt ∧ DfRel S' s.df a'.defers

def CodeOK (P : Program) (ro : Option Nat) (nt : Nat) (c : Code) (s : AS) (e : Ex) (s' : AS) : Prop :=
  ∀ (B : Nat) (E : Nat → Option AO) (R : Nat → Prop) (S : Wd) (a : Act) (r : Option Nat), Rel P.globals.size B S → At E R s.H S → TmRel S s.tm.get a.tmps → a.tmps.size = nt → DfRel S s.df a.defers → RoRel S ro r →
    c.wpIn (Fw r) 0 P (Post P B E R S nt e s') a S.w

def NumOK (P : Program) : Prop := ∀ (f : FuncId) (fn : Func), P.funcs[f]? = some fn → (fn.name == "runtime.NumGoroutine") = false
structure KOK (P : Program) (K : Kx) : Prop where
  num : NumOK P
  nat : ∀ f args H r H', K.nat f args H = some (r, H') → ∀ B E R S args', VRels S args args' → Rel P.globals.size B S → At E R H S →
    ∃ v' S', (callFunc f args'.toArray).run P S.w = .ok (.value v') S'.w ∧ VRel S' r v' ∧ Behind P B E R S H' S'
  call : ∀ f args H r H', K.call f args H = some (r, H') → (∃ fn c, P.funcs[f]? = some fn ∧ fn.body = some c) ∧ ∀ B E R S args', VRels S args args' → Rel P.globals.size B S → At E R H S →
    CallsIn Fence.wide 0 P f args'.toArray S.w (CallR P B E R S r H')
  run : ∀ l nt c s e s', K.run l nt c s = some (e, s') → CodeOK P (some l) nt c s e s'

section
variable {P : Program} {K : Kx} {B : Nat} {S : Wd} {E : Nat → Option AO} {R : Nat → Prop} {H H' : AHeap} {a : Act} {tm : Tr AV}

theorem callFunc_enter (hnum : NumOK P) {f : FuncId} {fn : Func} {c : Code} {args : Array Value} {w : World}
    (hf : P.funcs[f]? = some fn) (hb : fn.body = some c) : (callFunc f args).run P w = .ok (.enter f args) w := by
  have h1 : ¬ fn.name = "runtime.NumGoroutine" := by simpa using hnum f fn hf
  simp [callFunc, hf, hb, h1]

theorem setPs_rel {args : List AV} {vs : List Value} (hv : VRels S args vs) : ∀ {ps : List Tmp} {nt : Nat} {t t' : Tr AV} {tmps : Array Value}, setPs ps args nt t = some t' → tmps.size = nt → TmRel S t.get tmps →
    vs.length = ps.length ∧ TmRel S t'.get ((ps.zip vs).foldl (fun tmps (t, a) => tmps.setIfInBounds t a) tmps) ∧ ((ps.zip vs).foldl (fun tmps (t, a) => tmps.setIfInBounds t a) tmps).size = nt := by
  induction hv using VRels.rec (motive_1 := fun _ _ _ => True) with
  | nil =>
    intro ps nt t t' tmps h hn ht
    cases ps with
    | nil => simp only [setPs, chk_eq, Option.some.injEq] at h; obtain ⟨_, rfl⟩ := h; exact ⟨rfl, ht, hn⟩
    | cons p ps => cases h
  | cons x v xs vs hx hs _ ih =>
    intro ps nt t t' tmps h hn ht
    cases ps with
    | nil => simp only [setPs, chk_eq, List.isEmpty_cons] at h; exact absurd h.1 (by simp)
    | cons p ps =>
      simp only [setPs, chk_eq] at h
      obtain ⟨h1, h⟩ := h
      have h1 : @LT.lt Nat _ p nt := Nat.le_of_ble_eq_true h1
      have := ih h (tmps := tmps.setIfInBounds p v) (by simp [hn]) (fun d y hy => by
        rw [Tr.get_set] at hy
        by_cases e : d = p
        · subst e
          rw [if_pos rfl] at hy
          cases hy
          have hlt : @LT.lt Nat _ d tmps.size := by rw [hn]; exact h1
          refine ⟨by simpa using hlt, ?_⟩
          simp [Array.getD, hlt]
          exact hx
        · rw [if_neg e] at hy
          obtain ⟨g1, g2⟩ := ht d y hy
          refine ⟨by simpa using g1, ?_⟩
          have : (tmps.setIfInBounds p v).getD d undef = tmps.getD d undef := by
            simp [Array.getD_eq_getD_getElem?, Array.getElem?_setIfInBounds_ne (Ne.symm e)]
          rw [this]; exact g2)
      exact ⟨by simp [this.1], this.2⟩
  | _ => trivial
end
end Go.Ev
