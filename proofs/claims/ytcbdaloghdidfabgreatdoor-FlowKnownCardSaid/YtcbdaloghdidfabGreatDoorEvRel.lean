/- PART OF A PROOF: an evaluator over the model (its own text), and that it is sound: what it reckons, the machine does. No condition. -/
import Derived.Test.YtcbdaloghdidfabGreatDoorEvTr
namespace Go.Ev
open Go.RowKit

/-- A heap by what it answers, and the names that it has given out. -/
structure SH where
  g : Nat → Option AO
  al : Nat → Prop
def SH.put (H : SH) (b : Nat) (o : AO) : SH := ⟨fun k => if k = b then some o else H.g k, H.al⟩
def SH.newAt (H : SH) (b : Nat) (o : AO) : SH := ⟨fun k => if k = b then some o else H.g k, fun k => k = b ∨ H.al k⟩

/-- A heap, where its blocks lie (and at which cell they begin), the world. -/
structure Wd where
  H : SH
  μ : Nat → Nat × Nat
  w : World

/-- No block of the heap's lies there. -/
def Unm (S : Wd) (k : Nat) : Prop := ∀ b o, S.H.g b = some o → (S.μ b).1 ≠ k

/-- A header from before a row grew: what it sees is what the row holds. -/
structure Old (S : Wd) (a : AA) (c : Addr) (n st : Nat) : Prop where
  tip : a.tip < n
  unm : Unm S c.block
  lt : c.block < S.w.heap.size
  same : ∀ i, a.off ≤ i → i < a.tip → S.w.cell? ⟨c.block, c.off + (i - a.off), none⟩ = S.w.cell? ⟨(S.μ a.b).1, (S.μ a.b).2 + (i - st), none⟩

def Place (S : Wd) (a : AA) (c : Addr) (n : Nat) : Knd → Prop
  | .fixed _ => c.block = (S.μ a.b).1 ∧ c.off = a.off
  | .rub st lo => a.tip ≤ n ∧ (st ≤ a.base → lo ≤ a.tip → (c.block = (S.μ a.b).1 ∧ c.off = (S.μ a.b).2 + (a.off - st)) ∨ Old S a c n st)

structure ARel (S : Wd) (a : AA) (c : Addr) : Prop where
  lt : S.H.al a.b
  base : a.base ≤ a.off
  spot : c.spot = none
  place : ∀ n t k, S.H.g a.b = some (.cells n t k) → Place S a c n k

/-- The capacity. -/
structure CRel (S : Wd) (a : AA) (len cap opn : Nat) (c : Addr) (cap' : Nat) : Prop where
  le : len ≤ cap
  exact : opn = 0 → cap' = cap
  ge : cap ≤ cap'
  fits : opn ≠ 0 → ∀ n t st lo, S.H.g a.b = some (.cells n t (.rub st lo)) → st ≤ a.base → lo ≤ a.tip → a.tip = n →
    ∀ cs ty fr, S.w.heap[(S.μ a.b).1]? = some (.cells cs ty fr) → c.off + cap' * opn ≤ cs.size

/-- What a number names: a map, a block for deferred calls. -/
def isRef : AO → Bool
  | .map _ => true
  | .dfr => true
  | _ => false
structure MRel (S : Wd) (r r' : Nat) : Prop where
  lt : S.H.al r
  at_ : ∀ o, S.H.g r = some o → isRef o = true → r' = (S.μ r).1

inductive FnRel (S : Wd) : Fn → Fn → Prop
  | func (f : FuncId) : FnRel S (.func f) (.func f)
  | yield (l l' : Nat) (lt : S.H.al l) (at_ : ∀ x, S.H.g l = some (.loop x) → l' = (S.μ l).1) : FnRel S (.yield l) (.yield l')

mutual
inductive VRel (S : Wd) : AV → Value → Prop
  | bool (b : Bool) : VRel S (.bool b) (.bool b)
  | int (k : IntKind) (n : Int) : VRel S (.int k n) (.int k n)
  | str (s : ByteArray) : VRel S (.str s) (.string s)
  | nilptr : VRel S .nilptr (.pointer none)
  | ptr (a : AA) (c : Addr) (h : ARel S a c) : VRel S (.ptr a) (.pointer (some c))
  | nilslice : VRel S .nilslice (.slice none 0 0)
  | slice (a : AA) (len cap opn : Nat) (c : Addr) (cap' : Nat) (h : ARel S a c) (hc : CRel S a len cap opn c cap') : VRel S (.slice a len cap opn) (.slice (some c) len cap')
  | nilmap : VRel S .nilmap (.map none)
  | map (r r' : Nat) (h : MRel S r r') : VRel S (.map r) (.map (some r'))
  | func (f f' : Fn) (xs ys : List AV) (xs' ys' : List Value) (hf : FnRel S f f') (hx : VRels S xs xs') (hy : VRels S ys ys') : VRel S (.func f xs ys) (.func f' xs'.toArray ys'.toArray)
  | nilFunc : VRel S .nilFunc .nilFunc
  | nilIface : VRel S .nilIface .nilIface
  | agg (n : Nat) (t : Tr AV) (cs : List Value) (g : Nat → AV) (hn : cs.length = n) (hg : ∀ i, i < n → t.get i = some (g i) ∧ cellOK (g i) = true)
      (h : ∀ i, i < n → VRel S (g i) (cs.getD i undef)) : VRel S (.agg n t) (.agg cs.toArray)
  | tup (xs : List AV) (xs' : List Value) (h : VRels S xs xs') : VRel S (.tup xs) (.tuple xs'.toArray)
inductive VRels (S : Wd) : List AV → List Value → Prop
  | nil : VRels S [] []
  | cons (x : AV) (v : Value) (xs : List AV) (vs : List Value) (h : VRel S x v) (hs : VRels S xs vs) : VRels S (x :: xs) (v :: vs)
end

/-- The cells st to n of a row lie from cell s0 on. -/
def CellsRel (S : Wd) (t : Tr AV) (cs : Array Value) (st n s0 : Nat) : Prop :=
  ∀ i, st ≤ i → i < n → ∃ x v, t.get i = some x ∧ cellOK x = true ∧ cs[s0 + (i - st)]? = some v ∧ VRel S x v

def ERel (S : Wd) : List (AV × AV) → List MapEntry → Prop
  | [], [] => True
  | (k, v) :: es, e :: es' => VRel S k e.key ∧ VRel S v e.val ∧ notTup v = true ∧ ERel S es es'
  | _, _ => False

def TmRel (S : Wd) (f : Nat → Option AV) (tmps : Array Value) : Prop :=
  ∀ d x, f d = some x → d < tmps.size ∧ VRel S x (tmps.getD d undef)

structure LRel (S : Wd) (l : ALoop) (r : Loop) : Prop where
  state : r.state = l.state
  pend : r.pending = l.pend
  nt : r.tmps.size = l.nt
  tm : TmRel S l.tm.get r.tmps
  params : r.params.toList = l.params
  assign : r.assign = l.assign
  body : r.body = l.body

def KRel (S : Wd) (B b n : Nat) (t : Tr AV) (cs : Array Value) (fr : Nat × Nat) : Knd → Prop
  | .fixed ro => (S.μ b).2 = 0 ∧ cs.size = n ∧ CellsRel S t cs 0 n 0 ∧ (ro = false → B ≤ (S.μ b).1 ∧ fr = (0, 0))
  | .rub st lo => lo ≤ n ∧ st ≤ n ∧ (S.μ b).2 + (n - st) ≤ cs.size ∧ CellsRel S t cs st n (S.μ b).2 ∧ B ≤ (S.μ b).1 ∧ fr = (0, 0)

def ObjRel (S : Wd) (B b : Nat) : AO → Prop
  | .cells n t k => ∃ cs ty fr, S.w.heap[(S.μ b).1]? = some (.cells cs ty fr) ∧ KRel S B b n t cs fr k
  | .map es => ∃ es' ck, S.w.heap[(S.μ b).1]? = some (.map es' ck) ∧ ERel S es es'.toList ∧ B ≤ (S.μ b).1
  | .loop l => ∃ r, S.w.heap[(S.μ b).1]? = some (.loop r) ∧ LRel S l r ∧ B ≤ (S.μ b).1
  | .dfr => S.w.heap[(S.μ b).1]? = some (.deferred (some [])) ∧ B ≤ (S.μ b).1
  | .shut => S.w.heap[(S.μ b).1]? = some (.deferred none) ∧ B ≤ (S.μ b).1

structure Rel (G B : Nat) (S : Wd) : Prop where
  gb : G ≤ B
  base : B ≤ S.w.heap.size
  gnx : ∀ b, b < G → S.H.al b
  glob : ∀ b o, b < G → S.H.g b = some o → S.μ b = (b, 0)
  dom : ∀ b o, S.H.g b = some o → S.H.al b
  inj : ∀ b b' o o', S.H.g b = some o → S.H.g b' = some o' → (S.μ b).1 = (S.μ b').1 → b = b'
  obj : ∀ b o, S.H.g b = some o → ObjRel S B b o

/-- The state's heap is H with the blocks E beside it; the names R are kept free. -/
structure At (E : Nat → Option AO) (R : Nat → Prop) (H : AHeap) (S : Wd) : Prop where
  g : ∀ b, S.H.g b = match H.t.get b with | some o => some o | none => E b
  sep : ∀ b o, E b = some o → H.t.get b = none
  al : ∀ b, S.H.al b → b < H.next
  r : ∀ b, R b → b < H.next ∧ ¬ S.H.al b
theorem At.get {E : Nat → Option AO} {R : Nat → Prop} {H : AHeap} {S : Wd} (h : At E R H S) {b : Nat} {o : AO} (hb : H.t.get b = some o) : S.H.g b = some o := by
  rw [h.g, hb]
theorem At.fresh {E : Nat → Option AO} {R : Nat → Prop} {H : AHeap} {S : Wd} (h : At E R H S) : ¬ S.H.al H.next := fun x => absurd (h.al _ x) (Nat.lt_irrefl _)

/-- From one state to a later one. -/
structure Stp (B : Nat) (S S' : Wd) : Prop where
  a : ∀ a c, ARel S a c → ARel S' a c
  c : ∀ a len cap opn c cap', ARel S a c → CRel S a len cap opn c cap' → CRel S' a len cap opn c cap'
  m : ∀ r r', MRel S r r' → MRel S' r r'
  f : ∀ f f', FnRel S f f' → FnRel S' f f'
  frm : ∀ k, k < S.w.heap.size → Unm S k → S'.w.heap[k]? = S.w.heap[k]? ∧ Unm S' k
  below : Below B S.w S'.w
  nx : ∀ b, S.H.al b → S'.H.al b
  dom : ∀ b, S.H.al b → S.H.g b = none → S'.H.g b = none

theorem Stp.refl (B : Nat) (S : Wd) : Stp B S S :=
  ⟨fun _ _ h => h, fun _ _ _ _ _ _ _ h => h, fun _ _ h => h, fun _ _ h => h, fun _ _ h => ⟨rfl, h⟩, Below.refl _ _, fun _ h => h, fun _ _ h => h⟩
theorem Stp.trans {B : Nat} {S S₁ S₂ : Wd} (h : Stp B S S₁) (k : Stp B S₁ S₂) : Stp B S S₂ where
  a := fun a c x => k.a a c (h.a a c x)
  c := fun a len cap opn c cap' x y => k.c _ _ _ _ _ _ (h.a _ _ x) (h.c _ _ _ _ _ _ x y)
  m := fun _ _ x => k.m _ _ (h.m _ _ x)
  f := fun _ _ x => k.f _ _ (h.f _ _ x)
  frm := fun j hj u => by
    obtain ⟨e, u1⟩ := h.frm j hj u
    have hs := h.below.size
    obtain ⟨e2, u2⟩ := k.frm j (by omega) u1
    exact ⟨e2.trans e, u2⟩
  below := h.below.trans k.below
  nx := fun b x => k.nx b (h.nx b x)
  dom := fun b hb x => k.dom b (h.nx b hb) (h.dom b hb x)

/-- What holds of a value holds later on. -/
structure Later (S S' : Wd) : Prop where
  a : ∀ a c, ARel S a c → ARel S' a c
  c : ∀ a len cap opn c cap', ARel S a c → CRel S a len cap opn c cap' → CRel S' a len cap opn c cap'
  m : ∀ r r', MRel S r r' → MRel S' r r'
  f : ∀ f f', FnRel S f f' → FnRel S' f f'
theorem Stp.later {B : Nat} {S S' : Wd} (h : Stp B S S') : Later S S' := ⟨h.a, h.c, h.m, h.f⟩

theorem VRel.later {S S' : Wd} (H : Later S S') {x : AV} {v : Value} (h : VRel S x v) : VRel S' x v := by
  refine VRel.rec (motive_1 := fun x v _ => VRel S' x v) (motive_2 := fun xs vs _ => VRels S' xs vs) ?_ ?_ ?_ ?_ ?_ ?_ ?_ ?_ ?_ ?_ ?_ ?_ ?_ ?_ ?_ ?_ h
  · exact fun b => .bool b
  · exact fun k n => .int k n
  · exact fun s => .str s
  · exact .nilptr
  · exact fun a c h => .ptr a c (H.a a c h)
  · exact .nilslice
  · exact fun a len cap opn c cap' h hc => .slice a len cap opn c cap' (H.a a c h) (H.c _ _ _ _ _ _ h hc)
  · exact .nilmap
  · exact fun r r' h => .map r r' (H.m _ _ h)
  · exact fun f f' xs ys xs' ys' hf _ _ ix iy => .func f f' xs ys xs' ys' (H.f _ _ hf) ix iy
  · exact .nilFunc
  · exact .nilIface
  · exact fun n t cs g hn hg _ ih => .agg n t cs g hn hg ih
  · exact fun xs xs' _ ih => .tup xs xs' ih
  · exact .nil
  · exact fun x v xs vs _ _ i1 i2 => .cons x v xs vs i1 i2
theorem VRels.later {S S' : Wd} (H : Later S S') : ∀ {xs : List AV} {vs : List Value}, VRels S xs vs → VRels S' xs vs
  | _, _, .nil => .nil
  | _, _, .cons _ _ _ _ h hs => .cons _ _ _ _ (h.later H) (VRels.later H hs)
theorem CellsRel.later {S S' : Wd} (H : Later S S') {t : Tr AV} {cs : Array Value} {st n s0 : Nat} (h : CellsRel S t cs st n s0) : CellsRel S' t cs st n s0 :=
  fun i h1 h2 => let ⟨x, v, a, b, c, d⟩ := h i h1 h2; ⟨x, v, a, b, c, d.later H⟩
theorem ERel.later {S S' : Wd} (H : Later S S') : ∀ {es : List (AV × AV)} {es' : List MapEntry}, ERel S es es' → ERel S' es es'
  | [], [], _ => trivial
  | (_, _) :: _, _ :: _, ⟨a, b, c, d⟩ => ⟨a.later H, b.later H, c, ERel.later H d⟩
  | [], _ :: _, h => h.elim
  | _ :: _, [], h => h.elim
theorem TmRel.later {S S' : Wd} (H : Later S S') {f : Nat → Option AV} {tmps : Array Value} (h : TmRel S f tmps) : TmRel S' f tmps :=
  fun d x hx => let ⟨a, b⟩ := h d x hx; ⟨a, b.later H⟩
theorem LRel.later {S S' : Wd} (H : Later S S') {l : ALoop} {r : Loop} (h : LRel S l r) : LRel S' l r :=
  ⟨h.state, h.pend, h.nt, h.tm.later H, h.params, h.assign, h.body⟩

theorem VRels.length {S : Wd} : ∀ {xs : List AV} {vs : List Value}, VRels S xs vs → xs.length = vs.length
  | _, _, .nil => rfl
  | _, _, .cons _ _ _ _ _ hs => by simp [VRels.length hs]
theorem VRels.append {S : Wd} : ∀ {xs : List AV} {vs : List Value} {ys : List AV} {us : List Value}, VRels S xs vs → VRels S ys us → VRels S (xs ++ ys) (vs ++ us)
  | _, _, _, _, .nil, h => h
  | _, _, _, _, .cons _ _ _ _ h hs, k => .cons _ _ _ _ h (VRels.append hs k)
end Go.Ev
