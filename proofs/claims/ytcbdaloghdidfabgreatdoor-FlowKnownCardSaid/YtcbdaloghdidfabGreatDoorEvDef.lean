/- PART OF A PROOF: an evaluator over the model (its own text), and that it is sound: what it reckons, the machine does. No condition. -/
import Derived.CallsIn
import Derived.RangeFuncLeaves
import Derived.RangeFuncRecord
import Derived.OrdersIn
import Derived.LoopNIn
import Derived.Below
import Derived.KernelRfl
namespace Go.Ev

/-! ### Tries -/
inductive Tr (α : Type) where
  | nil : Tr α
  | node (l : Tr α) (v : Option α) (r : Tr α) : Tr α

namespace Tr
variable {α : Type}
noncomputable def get (t : Tr α) : Nat → Option α :=
  Tr.rec (motive := fun _ => Nat → Option α) (fun _ => none)
    (fun _ v _ ihl ihr n => Nat.rec (motive := fun _ => Option α) v
      (fun m _ => Bool.rec (motive := fun _ => Option α) (ihr (Nat.div m 2)) (ihl (Nat.div m 2)) (Nat.beq (Nat.mod m 2) 0)) n) t
noncomputable def setF (f : Nat) : Tr α → Nat → α → Tr α :=
  Nat.rec (motive := fun _ => Tr α → Nat → α → Tr α) (fun t _ _ => t)
    (fun _ ih t n x => Tr.rec (motive := fun _ => Tr α)
      (Nat.rec (motive := fun _ => Tr α) (node nil (some x) nil)
        (fun m _ => Bool.rec (motive := fun _ => Tr α) (node nil none (ih nil (Nat.div m 2) x)) (node (ih nil (Nat.div m 2) x) none nil) (Nat.beq (Nat.mod m 2) 0)) n)
      (fun l v r _ _ => Nat.rec (motive := fun _ => Tr α) (node l (some x) r)
        (fun m _ => Bool.rec (motive := fun _ => Tr α) (node l v (ih r (Nat.div m 2) x)) (node (ih l (Nat.div m 2) x) v r) (Nat.beq (Nat.mod m 2) 0)) n) t) f
noncomputable def set (t : Tr α) (n : Nat) (x : α) : Tr α := setF (Nat.succ n) t n x
end Tr

/-- Bind and test, in this text's own words. -/
noncomputable def ob {α β : Type} (x : Option α) (f : α → Option β) : Option β := Option.rec (motive := fun _ => Option β) none f x
noncomputable def chk {α : Type} (b : Bool) (x : Option α) : Option α := Bool.rec (motive := fun _ => Option α) none x b

/-! ### Values, objects, heaps -/
structure AA where
  b : Nat
  off : Nat
  tip : Nat
  base : Nat

inductive AV where
  | bool (b : Bool)
  | int (k : IntKind) (n : Int)
  | str (s : ByteArray)
  | ptr (a : AA)
  | nilptr
  | slice (a : AA) (len cap opn : Nat)   -- opn: 0: the capacity is cap; e: it is not known, elements of e cells
  | nilslice
  | map (r : Nat)
  | nilmap
  | func (fn : Fn) (first captured : List AV)
  | nilFunc
  | nilIface
  | agg (n : Nat) (t : Tr AV)
  | tup (vs : List AV)

inductive Knd where
  | fixed (ro : Bool)
  | rub (st lo : Nat)

structure ALoop where
  state : LoopState
  pend : Option Code
  tm : Tr AV
  nt : Nat
  params : List Tmp
  assign : Code
  body : Code

inductive AO where
  | cells (n : Nat) (t : Tr AV) (k : Knd)
  | map (es : List (AV × AV))
  | loop (l : ALoop)
  | dfr
  | shut

structure AHeap where
  next : Nat
  t : Tr AO

noncomputable def undefA : AV := .tup []

noncomputable def ofCell : Value → Option AV
  | .bool b => some (.bool b)
  | .int k n => some (.int k n)
  | .string s => some (.str s)
  | .pointer none => some .nilptr
  | .slice none 0 0 => some .nilslice
  | .map none => some .nilmap
  | .nilFunc => some .nilFunc
  | .nilIface => some .nilIface
  | _ => none
noncomputable def ofCells (l : List Value) : Nat → Tr AV → Option (Tr AV) :=
  List.rec (motive := fun _ => Nat → Tr AV → Option (Tr AV)) (fun _ t => some t) (fun v _ ih i t => ob (ofCell v) fun a => ih (Nat.succ i) (t.set i a)) l
noncomputable def ofVal : Value → Option AV
  | .agg cs => ob (ofCells cs.toList 0 .nil) fun t => some (.agg cs.size t)
  | v => ofCell v

noncomputable def putH (H : AHeap) (b : Nat) (o : AO) : AHeap := ⟨H.next, H.t.set b o⟩
noncomputable def newH (H : AHeap) (o : AO) : AHeap := ⟨H.next + 1, H.t.set H.next o⟩

/-- What may lie in one cell. -/
noncomputable def cellOK : AV → Bool
  | .agg _ _ => false
  | .tup _ => false
  | _ => true
noncomputable def cnt : AV → Nat
  | .agg n _ => n
  | _ => 1
noncomputable def trOf : AV → Tr AV
  | .agg _ t => t
  | v => .node .nil (some v) .nil
noncomputable def notTup : AV → Bool
  | .tup _ => false
  | _ => true

section
variable (P : Program)
noncomputable def tsz (t : TypeId) : Option Nat := ob (P.info? t) fun i => some i.size
noncomputable def tagg (t : TypeId) : Option Bool :=
  match P.underlying t with
  | some (.struct _) => some true
  | some (.array _ _) => some true
  | some _ => some false
  | none => none
noncomputable def tzero (t : TypeId) : Option AV := ob (P.info? t) fun i => ob i.zero ofVal

/-! ### Reading -/
noncomputable def rdCell (H : AHeap) (a : AA) : Option AV :=
  ob (H.t.get a.b) fun
  | .cells n t (.fixed _) => chk (Nat.blt a.off n) (t.get a.off)
  | .cells _ t (.rub st lo) => chk (Nat.ble st a.base && Nat.blt a.off a.tip && Nat.ble lo a.tip) (t.get a.off)
  | _ => none
/-- k cells of t from off on, laid into acc from i on. -/
noncomputable def cpTr (t : Tr AV) (k off i : Nat) (acc : Tr AV) : Option (Tr AV) :=
  Nat.rec (motive := fun _ => Nat → Nat → Tr AV → Option (Tr AV)) (fun _ _ acc => some acc)
    (fun _ ih off i acc => ob (t.get off) fun v => ih (Nat.succ off) (Nat.succ i) (acc.set i v)) k off i acc
noncomputable def rdCells (H : AHeap) (a : AA) (k : Nat) : Option (Tr AV) :=
  ob (H.t.get a.b) fun
  | .cells n t (.fixed _) =>
    cond (Nat.beq a.off 0 && Nat.beq k n) (some t) (chk (Nat.ble (a.off + k) n) (cpTr t k a.off 0 .nil))
  | .cells _ t (.rub st lo) =>
    chk (Nat.ble st a.base && Nat.ble (a.off + k) a.tip && Nat.ble lo a.tip) (cpTr t k a.off 0 .nil)
  | _ => none
noncomputable def load (H : AHeap) (t : TypeId) (a : AA) : Option AV :=
  ob (tagg P t) fun
  | true => ob (tsz P t) fun k => ob (rdCells H a k) fun tr => some (.agg k tr)
  | false => rdCell H a

/-! ### Writing -/
noncomputable def wrCells (H : AHeap) (a : AA) (k : Nat) (src : Tr AV) : Option AHeap :=
  ob (H.t.get a.b) fun
  | .cells n t (.fixed false) =>
    cond (Nat.beq a.off 0 && Nat.beq k n) (some (putH H a.b (.cells n src (.fixed false))))
      (chk (Nat.ble (a.off + k) n) (ob (cpTr src k 0 a.off t) fun t' => some (putH H a.b (.cells n t' (.fixed false)))))
  | .cells n t (.rub st _) =>
    chk (Nat.ble st a.base && Nat.ble (a.off + k) n && Nat.beq a.tip n)
      (ob (cpTr src k 0 a.off t) fun t' => some (putH H a.b (.cells n t' (.rub st n))))
  | _ => none
noncomputable def store (H : AHeap) (t : TypeId) (a : AA) (v : AV) : Option AHeap :=
  ob (tsz P t) fun sz => chk (notTup v && Nat.beq (cnt v) sz) (wrCells H a sz (trOf v))

/-! ### Parts -/
noncomputable def part (t : TypeId) (n : Nat) (tr : Tr AV) (off : Nat) : Option AV :=
  ob (tagg P t) fun
  | true => ob (tsz P t) fun k => chk (Nat.ble (off + k) n) (ob (cpTr tr k off 0 .nil) fun tr' => some (.agg k tr'))
  | false => chk (Nat.blt off n) (tr.get off)
noncomputable def fillParts (place : Nat → Option (Nat × Nat)) (n : Nat) : List (Nat × AV) → Tr AV → Option (Tr AV)
  | [], t => some t
  | (i, v) :: rest, t =>
    ob (place i) fun (off, size) =>
      chk (notTup v && Nat.beq (cnt v) size && Nat.ble (off + size) n)
        (ob (cpTr (trOf v) size 0 off t) fun t' => fillParts place n rest t')
noncomputable def fieldAt (t : TypeId) (i : Nat) : Option Field :=
  match P.underlying t with
  | some (.struct fs) => fs[i]?
  | _ => none
noncomputable def fieldPlaceA (fs : Array Field) (i : Nat) : Option (Nat × Nat) :=
  ob fs[i]? fun f => ob (tsz P f.type) fun s => some (f.offset, s)
/-- All fields' sizes are known (the model asks each). -/
noncomputable def fieldsKnown : List Field → Bool
  | [] => true
  | f :: fs => (tsz P f.type).isSome && fieldsKnown fs
noncomputable def buildV (t : TypeId) (parts : List (Nat × AV)) : Option AV :=
  ob (tzero P t) fun z =>
    ob (P.underlying t) fun
    | .struct fs => chk (fieldsKnown P fs.toList && !cellOK z && notTup z) (ob (fillParts (fieldPlaceA P fs) (cnt z) parts (trOf z)) fun t' => some (.agg (cnt z) t'))
    | .array _ e => ob (tsz P e) fun s => chk (!cellOK z && notTup z) (ob (fillParts (fun i => some (i * s, s)) (cnt z) parts (trOf z)) fun t' => some (.agg (cnt z) t'))
    | _ => none
/-- k cells from i on, the zero value's again and again. -/
noncomputable def repZ (zn : Nat) (z : Tr AV) (k : Nat) : Nat → Tr AV → Option (Tr AV) :=
  Nat.rec (motive := fun _ => Nat → Tr AV → Option (Tr AV)) (fun _ acc => some acc) (fun _ ih i acc => ob (z.get (Nat.mod i zn)) fun v => ih (Nat.succ i) (acc.set i v)) k
noncomputable def zeros (e : TypeId) (k : Nat) : Option (Tr AV) := ob (tzero P e) fun v => chk (notTup v && Nat.ble 1 (cnt v)) (repZ (cnt v) (trOf v) k 0 .nil)

/-! ### Numbers -/
noncomputable def aBin (op : BinOp) (k : IntKind) (x y : Int) : Option AV :=
  match op with
  | .add => some (.int k (k.wrap (x + y)))
  | .sub => some (.int k (k.wrap (x - y)))
  | .mul => some (.int k (k.wrap (x * y)))
  | .quo => if y = 0 then none else some (.int k (k.wrap (x.tdiv y)))
  | .rem => if y = 0 then none else some (.int k (x.tmod y))
  | .and => some (.int k (k.wrap (BitVec.ofInt k.bits x &&& BitVec.ofInt k.bits y).toNat))
  | .or => some (.int k (k.wrap (BitVec.ofInt k.bits x ||| BitVec.ofInt k.bits y).toNat))
  | .xor => some (.int k (k.wrap (BitVec.ofInt k.bits x ^^^ BitVec.ofInt k.bits y).toNat))
  | .andNot => some (.int k (k.wrap (BitVec.ofInt k.bits x &&& ~~~(BitVec.ofInt k.bits y)).toNat))
  | .eql => some (.bool (x == y))
  | .neq => some (.bool (x != y))
  | .lss => some (.bool (x < y))
  | .leq => some (.bool (x ≤ y))
  | .gtr => some (.bool (x > y))
  | .geq => some (.bool (x ≥ y))
  | _ => none
noncomputable def aShift (op : BinOp) (k : IntKind) (x y : Int) : Option AV :=
  if y < 0 then none else
  match op with
  | .shl => some (.int k (k.wrap (x * 2 ^ (min y.toNat k.bits))))
  | .shr => some (.int k (x.fdiv (2 ^ (min y.toNat k.bits))))
  | _ => none
noncomputable def eqFields (rec : TypeId → AV → AV → Option Bool) (n m : Nat) (xs ys : Tr AV) : List Field → Option Bool
  | [] => some true
  | f :: fs =>
    cond (f.name != "_")
      (ob (part P f.type n xs f.offset) fun a => ob (part P f.type m ys f.offset) fun b => ob (rec f.type a b) fun
         | true => eqFields rec n m xs ys fs
         | false => some false)
      (eqFields rec n m xs ys fs)
noncomputable def eqElems (rec : AV → AV → Option Bool) (e : TypeId) (s n m : Nat) (xs ys : Tr AV) : Nat → Nat → Option Bool
  | 0, _ => some true
  | k + 1, i =>
    ob (part P e n xs (i * s)) fun a => ob (part P e m ys (i * s)) fun b => ob (rec a b) fun
      | true => eqElems rec e s n m xs ys k (i + 1)
      | false => some false
noncomputable def aEq : Nat → TypeId → AV → AV → Option Bool
  | 0, _, _, _ => none
  | d + 1, t, x, y =>
    match P.underlying t with
    | some .bool => match x, y with | .bool a, .bool b => some (a == b) | _, _ => none
    | some (.int _) => match x, y with | .int k a, .int k' b => if k = k' then some (a == b) else none | _, _ => none
    | some .string => match x, y with | .str a, .str b => some (a == b) | _, _ => none
    | some (.pointer _) => match x, y with
      | .nilptr, .nilptr => some true
      | .nilptr, .ptr _ => some false
      | .ptr _, .nilptr => some false
      | _, _ => none
    | some (.slice _) => match x, y with
      | .nilslice, .nilslice => some true
      | .nilslice, .slice .. => some false
      | .slice .., .nilslice => some false
      | _, _ => none
    | some (.struct fs) => match x, y with
      | .agg n xs, .agg m ys => chk (!P.stoodInHeld t) (eqFields P (aEq d) n m xs ys fs.toList)
      | _, _ => none
    | some (.array len e) => match x, y with
      | .agg n xs, .agg m ys => ob (tsz P e) fun s => eqElems P (aEq d e) e s n m xs ys len 0
      | _, _ => none
    | _ => none
noncomputable def isAggA : AV → Bool
  | .agg _ _ => true
  | _ => false
noncomputable def cmpA (op : BinOp) (t : TypeId) (x y : AV) : Option AV :=
  chk (!(isAggA x && P.eqGuardType P.depth t))
    (match op with
    | .eql => ob (aEq P 50 t x y) fun b => some (.bool b)
    | .neq => ob (aEq P 50 t x y) fun b => some (.bool !b)
    | _ => none)
noncomputable def binop (op : BinOp) (t : TypeId) (x y : AV) : Option AV :=
  match x, y with
  | .int k a, .int k' b =>
    match op with
    | .shl => aShift .shl k a b
    | .shr => aShift .shr k a b
    | op => if k = k' then aBin op k a b else none
  | .str a, .str b =>
    match op with
    | .eql => some (.bool (a.toList == b.toList))
    | .neq => some (.bool !(a.toList == b.toList))
    | _ => none
  | .bool a, .bool b => cmpA P op t (.bool a) (.bool b)
  | .nilptr, y => cmpA P op t .nilptr y
  | .ptr a, y => cmpA P op t (.ptr a) y
  | .nilslice, y => cmpA P op t .nilslice y
  | .slice a l c o, y => cmpA P op t (.slice a l c o) y
  | .agg n a, .agg m b => cmpA P op t (.agg n a) (.agg m b)
  | _, _ => none
noncomputable def aUn (op : UnOp) (x : AV) : Option AV :=
  match op, x with
  | .neg, .int k n => some (.int k (k.wrap (0 - n)))
  | .xor, .int k n => some (.int k (k.wrap (BitVec.ofInt k.bits (if k.signed then -1 else k.max) ^^^ BitVec.ofInt k.bits n).toNat))
  | .not, .bool b => some (.bool !b)
  | _, _ => none

/-! ### Conversions, addresses, slices -/
noncomputable def strOf (t : Tr AV) : (k off : Nat) → ByteArray → Option ByteArray
  | 0, _, acc => some acc
  | k + 1, off, acc => ob (t.get off) fun
    | .int .u8 n => strOf t k (off + 1) (acc.push (UInt8.ofNat n.toNat))
    | _ => none
/-- A conversion that does not look at memory. -/
noncomputable def convP (dst : TypeId) (x : AV) : Option AV :=
  match x with
  | .int _ n => ob (P.underlying dst) fun
    | .int k => some (.int k (k.wrap n))
    | _ => none
  | .str s => ob (P.underlying dst) fun
    | .string => some (.str s)
    | _ => none
  | _ => none
noncomputable def isU8 (t : TypeId) : Bool :=
  match P.underlying t with
  | some (.int .u8) => true
  | _ => false
/-- Bytes to a string. -/
noncomputable def convR (H : AHeap) (src dst : TypeId) (x : AV) : Option AV :=
  ob (P.underlying src) fun
  | .slice e => ob (P.underlying dst) fun
    | .string => chk (isU8 P e) (match x with
      | .nilslice => some (.str .empty)
      | .slice a len _ _ => ob (rdCells H a len) fun t => ob (strOf t len 0 .empty) fun s => some (.str s)
      | _ => none)
    | _ => none
  | _ => none
noncomputable def idx (t : TypeId) (x i : AV) : Option AV :=
  match i with
  | .int _ i =>
    ob (P.underlying t) fun
    | .array len e => match x with
      | .ptr a => chk (decide (0 ≤ i ∧ i < len)) (ob (tsz P e) fun s => some (.ptr ⟨a.b, a.off + i.toNat * s, a.tip, a.base⟩))
      | _ => none
    | .slice e => match x with
      | .slice a len _ _ => chk (decide (0 ≤ i ∧ i < len)) (ob (tsz P e) fun s => some (.ptr ⟨a.b, a.off + i.toNat * s, a.tip, a.base⟩))
      | _ => none
    | _ => none
  | _ => none
noncomputable def idxV (t : TypeId) (x i : AV) : Option AV :=
  match i with
  | .int _ i =>
    match x with
    | .agg n tr => ob (P.underlying t) fun
      | .array len e => chk (decide (0 ≤ i ∧ i < len)) (ob (tsz P e) fun s => part P e n tr (i.toNat * s))
      | _ => none
    | .str s => ob (P.underlying t) fun
      | .string => chk (decide (0 ≤ i)) (ob s[i.toNat]? fun b => some (.int .u8 b.toNat))
      | _ => none
    | _ => none
  | _ => none
noncomputable def natOf : AV → Option Nat
  | .int _ i => chk (decide (0 ≤ i)) (some i.toNat)
  | _ => none
noncomputable def bound (d : Nat) : Option AV → Option Nat
  | some v => natOf v
  | none => some d
noncomputable def mvA (a : AA) (same : Bool) (n : Nat) : AA := cond same a ⟨a.b, a.off + n, a.tip, a.base⟩
noncomputable def slc (t : TypeId) (x : AV) (lo hi mx : Option AV) : Option AV :=
  ob (P.underlying t) fun
  | .slice e =>
    ob (tsz P e) fun s =>
      match x with
      | .slice a len cap opn =>
        ob (bound 0 lo) fun l => ob (bound len hi) fun h =>
          match mx with
          | none => chk (Nat.ble h cap && Nat.ble l h && (Nat.beq opn 0 || (Nat.beq opn s && !Nat.beq l cap)))
              (some (.slice (mvA a (Nat.beq cap l) (l * s)) (h - l) (cap - l) opn))
          | some m => chk hi.isSome (ob (natOf m) fun m => chk (Nat.ble m cap && Nat.ble h m && Nat.ble l h)
              (some (.slice (mvA a (Nat.beq m l) (l * s)) (h - l) (m - l) 0)))
      | .nilslice =>
        ob (bound 0 lo) fun l => ob (bound 0 hi) fun h =>
          match mx with
          | none => chk (Nat.beq l 0 && Nat.beq h 0) (some .nilslice)
          | some _ => none
      | _ => none
  | .array n e =>
    ob (tsz P e) fun s =>
      match x with
      | .ptr a =>
        ob (bound 0 lo) fun l => ob (bound n hi) fun h =>
          match mx with
          | none => chk (Nat.ble h n && Nat.ble l h) (some (.slice (mvA a (Nat.beq n l) (l * s)) (h - l) (n - l) 0))
          | some _ => none
      | _ => none
  | _ => none

/-! ### Maps -/
noncomputable def keyEq : AV → AV → Option Bool
  | .int k a, .int k' b => if k = k' then some (a == b) else none
  | .str a, .str b => some (a == b)
  | .bool a, .bool b => some (a == b)
  | _, _ => none
noncomputable def keyFits (kt : TypeDesc) : AV → Bool
  | .int _ _ => match kt with | .int _ => true | _ => false
  | .str _ => match kt with | .string => true | _ => false
  | .bool _ => match kt with | .bool => true | _ => false
  | _ => false
noncomputable def look (k : AV) : List (AV × AV) → Option (Option AV)
  | [] => some none
  | (a, v) :: r => ob (keyEq k a) fun
    | true => some (some v)
    | false => look k r
noncomputable def upd (k v : AV) : List (AV × AV) → Option (List (AV × AV))
  | [] => some [(k, v)]
  | (a, u) :: r => ob (keyEq k a) fun
    | true => some ((k, v) :: r)
    | false => ob (upd k v r) fun r' => some ((a, u) :: r')
noncomputable def mapES (H : AHeap) : AV → Option (List (AV × AV))
  | .nilmap => some []
  | .map r => ob (H.t.get r) fun
    | .map es => some es
    | _ => none
  | _ => none
noncomputable def withOk (ok : Bool) (v : AV) (b : Bool) : AV := cond ok (.tup [v, .bool b]) v
noncomputable def lookupA (H : AHeap) (t : TypeId) (m k : AV) (ok : Bool) : Option AV :=
  ob (P.underlying t) fun
  | .map kt e => ob (P.underlying kt) fun kd => chk (keyFits kd k) (ob (mapES H m) fun es => ob (look k es) fun
    | some v => some (withOk ok v true)
    | none => ob (tzero P e) fun z => some (withOk ok z false))
  | _ => none
noncomputable def mapUpd (H : AHeap) (t : TypeId) (m k v : AV) : Option AHeap :=
  ob (P.underlying t) fun
  | .map kt _ => ob (P.underlying kt) fun kd => chk (keyFits kd k && notTup v) (match m with
    | .map r => ob (H.t.get r) fun
      | .map es => ob (upd k v es) fun es' => some (putH H r (.map es'))
      | _ => none
    | _ => none)
  | _ => none
/-- len of what needs no memory. -/
noncomputable def lenP (t : TypeId) (x : AV) : Option Nat :=
  ob (P.underlying t) fun
  | .array n _ => some n
  | .pointer e => ob (P.underlying e) fun
    | .array n _ => some n
    | _ => none
  | .slice _ => match x with
    | .nilslice => some 0
    | .slice _ l _ _ => some l
    | _ => none
  | .string => match x with
    | .str s => some s.size
    | _ => none
  | _ => none
noncomputable def lenR (H : AHeap) (t : TypeId) (x : AV) : Option Nat :=
  ob (P.underlying t) fun
  | .map _ _ => ob (mapES H x) fun es => some es.length
  | _ => none

/-! ### append, copy -/
noncomputable def srcCells (H : AHeap) (size : Nat) : AV → Option (Nat × Tr AV)
  | .nilslice => some (0, .nil)
  | .slice a l _ _ => ob (rdCells H a (l * size)) fun t => some (l, t)
  | _ => none

noncomputable def zOK (i : TypeInfo) : Bool :=
  match i.zero with
  | some v => Nat.beq v.cells.size i.size
  | none => false
noncomputable def appendOpen (H : AHeap) (size : Nat) (a : AA) (len cap opn m : Nat) (src : Tr AV) : Option (AV × AHeap) :=
  ob (H.t.get a.b) fun
  | .cells n t (.rub st lo) =>
    chk (Nat.beq a.tip n && Nat.beq len cap && Nat.ble st a.base && Nat.beq (a.off + len * size) n && Nat.beq opn size && Nat.ble lo n)
      (ob (cpTr src (m * size) 0 n t) fun t' => some (.slice ⟨a.b, a.off, n + m * size, a.off⟩ (len + m) (len + m) size,
        putH H a.b (.cells (n + m * size) t' (.rub a.off lo))))
  | _ => none
/-- Beyond the capacity of a slice whose capacity is known. -/
noncomputable def appendNew (H : AHeap) (size : Nat) (a : AA) (len m : Nat) (src : Tr AV) : Option (AV × AHeap) :=
  ob (rdCells H a (len * size)) fun old => ob (cpTr src (m * size) 0 (len * size) old) fun t' =>
    some (.slice ⟨H.next, 0, (len + m) * size, 0⟩ (len + m) (len + m) size, newH H (.cells ((len + m) * size) t' (.rub 0 ((len + m) * size))))
noncomputable def appendA (H : AHeap) (st : TypeId) (s x : AV) : Option (AV × AHeap) :=
  ob (P.underlying st) fun
  | .slice e =>
    ob (P.info? e) fun i => chk (Nat.ble 1 i.size && Nat.ble i.bytes 100000 && zOK i) (ob (srcCells H i.size x) fun (m, src) =>
        match s with
        | .nilslice =>
          cond (Nat.beq m 0) (some (.nilslice, H))
            (chk (Nat.ble m 1000000) (some (.slice ⟨H.next, 0, m * i.size, 0⟩ m m i.size, newH H (.cells (m * i.size) src (.rub 0 (m * i.size))))))
        | .slice a len cap opn =>
          cond (Nat.ble (len + m) cap)
            (cond (Nat.beq m 0) (some (.slice a len cap opn, H))
              (ob (wrCells H ⟨a.b, a.off + len * i.size, a.tip, a.base⟩ (m * i.size) src) fun H' => some (.slice a (len + m) cap opn, H')))
            (chk (Nat.ble (len + m) 1000000) (cond (Nat.beq opn 0) (appendNew H i.size a len m src) (appendOpen H i.size a len cap opn m src)))
        | _ => none)
  | _ => none
noncomputable def copyA (H : AHeap) (st : TypeId) (d x : AV) : Option (AV × AHeap) :=
  ob (P.underlying st) fun
  | .slice e =>
    ob (tsz P e) fun size =>
      match d with
      | .nilslice => match x with
        | .nilslice => some (.int .i64 0, H)
        | .slice _ _ _ _ => some (.int .i64 0, H)
        | _ => none
      | .slice a dl _ _ =>
        match x with
        | .nilslice => some (.int .i64 0, H)
        | .slice b l _ _ =>
          cond (Nat.beq (min l dl) 0) (some (.int .i64 0, H))
          (ob (rdCells H b (min l dl * size)) fun src => ob (wrCells H a (min l dl * size) src) fun H' => some (.int .i64 (min l dl : Nat), H'))
        | _ => none
      | _ => none
  | _ => none

/-! ### Operations, by what they do -/
noncomputable def mm2 (mx : Bool) (a b : Int) : Int := cond mx (if b > a then b else a) (if b < a then b else a)
noncomputable def mmx (mx : Bool) (acc : AV) : List AV → Option AV
  | [] => some acc
  | y :: r => match acc, y with
    | .int k a, .int _ b => mmx mx (.int k (mm2 mx a b)) r
    | _, _ => none
noncomputable def isInt : AV → Bool
  | .int _ _ => true
  | _ => false
noncomputable def mmxs (mx : Bool) : List AV → Option AV
  | [] => none
  | x :: r => chk (isInt x) (mmx mx x r)

noncomputable def evO (tm : Tr AV) : Operand → Option AV
  | .tmp t => tm.get t
  | .const v => ofVal v
  | .global g => chk (Nat.blt g P.globals.size) (some (.ptr ⟨g, 0, 0, 0⟩))
  | .func f => some (.func (.func f) [] [])
noncomputable def evOs (tm : Tr AV) : List Operand → Option (List AV)
  | [] => some []
  | o :: r => ob (evO P tm o) fun v => ob (evOs tm r) fun vs => some (v :: vs)
noncomputable def evParts (tm : Tr AV) : List (Nat × Operand) → Option (List (Nat × AV))
  | [] => some []
  | (i, o) :: r => ob (evO P tm o) fun v => ob (evParts tm r) fun vs => some ((i, v) :: vs)
noncomputable def evOpt (tm : Tr AV) : Option Operand → Option (Option AV)
  | none => some none
  | some o => ob (evO P tm o) fun v => some (some v)

inductive Cl where
  | p | r | a | w
noncomputable def isSliceT (t : TypeId) : Bool :=
  match P.underlying t with
  | some (.slice _) => true
  | _ => false
noncomputable def isMapT (t : TypeId) : Bool :=
  match P.underlying t with
  | some (.map _ _) => true
  | _ => false
noncomputable def clsCall (c : Call) : Cl :=
  match c.callee with
  | .builtin b => match b with
    | .len => match c.argTypes[0]? with
      | some t => cond (isMapT P t) .r .p
      | none => .p
    | .min => .p
    | .max => .p
    | _ => .w
  | _ => .w
/-- P: reckons with temporaries alone. R: looks at memory. A: lays one new block. W: all else. -/
noncomputable def cls : Op → Cl
  | .move _ => .p
  | .assign _ => .p
  | .pick _ _ _ => .p
  | .build _ _ => .p
  | .nilCheck _ => .p
  | .binOp _ _ _ _ _ => .p
  | .unOp _ _ _ => .p
  | .convert s _ _ => cond (isSliceT P s) .r .p
  | .makeFunc _ _ _ => .p
  | .slice _ _ _ _ _ => .p
  | .fieldAddr _ _ _ => .p
  | .field _ _ _ => .p
  | .indexAddr _ _ _ => .p
  | .index _ _ _ => .p
  | .extract _ _ => .p
  | .load _ _ => .r
  | .lookup _ _ _ _ => .r
  | .alloc _ => .a
  | .box _ _ => .a
  | .buildSlice _ _ _ => .a
  | .makeSlice _ _ _ => .a
  | .makeMap _ _ => .a
  | .call c => clsCall P c
  | _ => .w

noncomputable def evLenP (c : Call) (vs : List AV) : Option AV :=
  match vs with
  | [v] => ob c.argTypes[0]? fun t => ob (lenP P t v) fun n => some (.int .i64 n)
  | _ => none
noncomputable def evBuiltP (c : Call) (b : Builtin) (vs : List AV) : Option AV :=
  match b with
  | .len => evLenP P c vs
  | .min => mmxs false vs
  | .max => mmxs true vs
  | _ => none
noncomputable def evP (tm : Tr AV) : Op → Option AV
  | .move x => evO P tm x
  | .assign x => evO P tm x
  | .pick c a b => ob (evO P tm c) fun
    | .bool t => cond t (evO P tm a) (evO P tm b)
    | _ => none
  | .build t ps => ob (evParts P tm ps.toList) fun vs => buildV P t vs
  | .nilCheck x => ob (evO P tm x) fun
    | .ptr a => some (.ptr a)
    | .func (.func f) a b => some (.func (.func f) a b)
    | .func (.yield f) a b => some (.func (.yield f) a b)
    | _ => none
  | .binOp op t x y _ => ob (evO P tm x) fun a => ob (evO P tm y) fun b => binop P op t a b
  | .unOp op _ x => ob (evO P tm x) fun v => aUn op v
  | .convert s d x => ob (P.underlying s) fun _ => ob (evO P tm x) fun v => convP P d v
  | .makeFunc fn fs cs => ob (evOs P tm fs.toList) fun a => ob (evOs P tm cs.toList) fun b => match fn with
    | .func f => some (.func (.func f) a b)
    | _ => none
  | .slice t x lo hi mx => ob (evO P tm x) fun v => ob (evOpt P tm lo) fun a => ob (evOpt P tm hi) fun b => ob (evOpt P tm mx) fun c => slc P t v a b c
  | .fieldAddr s x f => ob (evO P tm x) fun
    | .ptr a => ob (fieldAt P s f) fun fd => ob (tsz P fd.type) fun z => chk (Nat.ble 1 z) (some (.ptr ⟨a.b, a.off + fd.offset, a.tip, a.base⟩))
    | _ => none
  | .field t x f => ob (evO P tm x) fun
    | .agg n tr => ob (fieldAt P t f) fun fd => part P fd.type n tr fd.offset
    | _ => none
  | .indexAddr t x i => ob (evO P tm x) fun x => ob (evO P tm i) fun i => idx P t x i
  | .index t x i => ob (evO P tm x) fun x => ob (evO P tm i) fun i => idxV P t x i
  | .extract t i => ob (evO P tm t) fun
    | .tup vs => vs[i]?
    | _ => none
  | .call c => ob (evOs P tm c.args.toList) fun vs => match c.callee with
    | .builtin b => evBuiltP P c b vs
    | _ => none
  | _ => none
noncomputable def evLenR (c : Call) (H : AHeap) (vs : List AV) : Option AV :=
  match vs with
  | [v] => ob c.argTypes[0]? fun t => ob (lenR P H t v) fun n => some (.int .i64 n)
  | _ => none
noncomputable def evR (tm : Tr AV) (H : AHeap) : Op → Option AV
  | .load t a => ob (evO P tm a) fun
    | .ptr a => load P H t a
    | _ => none
  | .convert s d x => ob (evO P tm x) fun v => convR P H s d v
  | .lookup t m k ok => ob (evO P tm m) fun m => ob (evO P tm k) fun k => lookupA P H t m k ok
  | .call c => match c.callee with
    | .builtin .len => ob (evOs P tm c.args.toList) fun vs => evLenR P c H vs
    | _ => none
  | _ => none
/-- What a new block's maker yields, at the block's number. -/
inductive Pk where
  | ptr | sl (len cap : Nat) | mp
noncomputable def Pk.at : Pk → Nat → AV
  | .ptr, b => .ptr ⟨b, 0, 0, 0⟩
  | .sl l c, b => .slice ⟨b, 0, 0, 0⟩ l c 0
  | .mp, b => .map b
noncomputable def boxA (v : AV) : Option (AO × Pk) := chk (notTup v) (some (.cells (cnt v) (trOf v) (.fixed false), .ptr))
noncomputable def buildSlA (t : TypeId) (n : Nat) (vs : List (Nat × AV)) : Option (AO × Pk) :=
  ob (P.underlying t) fun
  | .slice e => ob (tsz P e) fun s => chk (Nat.ble (n * s) 16777216) (ob (zeros P e (n * s)) fun z =>
      ob (fillParts (fun i => some (i * s, s)) (n * s) vs z) fun t' => some (.cells (n * s) t' (.fixed false), .sl n n))
  | _ => none
noncomputable def makeSlA (t : TypeId) (l c : AV) : Option (AO × Pk) :=
  ob (P.underlying t) fun
  | .slice e => ob (P.info? e) fun i => ob (natOf l) fun l => ob (natOf c) fun c =>
      chk (Nat.ble l c && Nat.ble c 1000000 && Nat.ble i.bytes 100000)
        (ob (zeros P e (c * i.size)) fun z => some (.cells (c * i.size) z (.fixed false), .sl l c))
  | _ => none
noncomputable def evA (tm : Tr AV) : Op → Option (AO × Pk)
  | .alloc e => ob (tzero P e) boxA
  | .box _ x => ob (evO P tm x) boxA
  | .buildSlice t n ps => ob (evParts P tm ps.toList) fun vs => buildSlA P t n vs
  | .makeSlice t l c => ob (evO P tm l) fun l => ob (evO P tm c) fun c => makeSlA P t l c
  | .makeMap _ r => chk r.isNone (some (.map [], .mp))
  | _ => none

/-! ### Calls, rounds -/
structure AS where
  tm : Tr AV
  H : AHeap
  df : List Nat
inductive Ex where
  | normal | exit (id : Nat) | goto (l : Nat) | ret
structure Kx where
  nat : FuncId → List AV → AHeap → Option (AV × AHeap)
  call : FuncId → List AV → AHeap → Option (AV × AHeap)
  run : Nat → Nat → Code → AS → Option (Ex × AS)

noncomputable def setPs : List Tmp → List AV → Nat → Tr AV → Option (Tr AV)
  | [], vs, _, t => chk vs.isEmpty (some t)
  | p :: ps, vs, nt, t => match vs with
    | v :: vs => chk (Nat.blt p nt) (setPs ps vs nt (t.set p v))
    | [] => none
noncomputable def jumpOf : Ex → Option (Option Code)
  | .normal => some none
  | .ret => some (some .ret)
  | .exit id => some (some (.exit id))
  | .goto _ => none
noncomputable def isReady : LoopState → Bool
  | .ready => true
  | _ => false
noncomputable def isBusy : LoopState → Bool
  | .busy => true
  | _ => false
noncomputable def loopAt (H : AHeap) (l : Nat) : Option ALoop :=
  ob (H.t.get l) fun
  | .loop r => some r
  | _ => none
/-- A round of a range over a function. -/
noncomputable def yieldA (K : Kx) (l : Nat) (args : List AV) (H : AHeap) : Option (AV × AHeap) :=
  ob (loopAt H l) fun r => ob (setPs r.params args r.nt r.tm) fun tm =>
  ob (K.run l r.nt r.assign ⟨tm, H, []⟩) fun (e, s1) =>
  match e with
  | .normal => chk s1.df.isEmpty (ob (loopAt s1.H l) fun r1 => chk (isReady r1.state)
    (ob (K.run l r.nt r.body ⟨s1.tm, putH s1.H l (.loop { r1 with state := .busy }), []⟩) fun (e, s2) =>
      chk s2.df.isEmpty (ob (jumpOf e) fun j => ob (loopAt s2.H l) fun r2 =>
        some (.bool j.isNone, putH s2.H l (.loop { r2 with state := cond j.isNone .ready .done, pend := j })))))
  | _ => none
noncomputable def callG (K : Kx) (g : FuncId) (args : List AV) (H : AHeap) : Option (AV × AHeap) :=
  match K.nat g args H with
  | some r => some r
  | none => K.call g args H
noncomputable def callV (K : Kx) (H : AHeap) (f : AV) (args : List AV) : Option (AV × AHeap) :=
  match f with
  | .func (.func g) first cap => callG K g (first ++ (args ++ cap)) H
  | .func (.yield l) [] [] => yieldA K l args H
  | _ => none
noncomputable def evCallW (K : Kx) (tm : Tr AV) (H : AHeap) (c : Call) (vs : List AV) : Option (AV × AHeap) :=
  match c.callee with
  | .value f => ob (evO P tm f) fun fv => callV K H fv vs
  | .builtin b => match b with
    | .append => match vs with
      | [s, x] => match c.argTypes.toList with
        | [t, t2] => chk (Nat.beq t t2) (appendA P H t s x)
        | _ => none
      | _ => none
    | .copy => match vs with
      | [s, x] => ob c.argTypes[0]? fun t => copyA P H t s x
      | _ => none
    | _ => none
  | _ => none
noncomputable def evW (K : Kx) (tm : Tr AV) (H : AHeap) : Op → Option (AV × AHeap)
  | .store t a x => ob (evO P tm a) fun
    | .ptr a => ob (evO P tm x) fun v => ob (store P H t a v) fun H' => some (undefA, H')
    | _ => none
  | .mapUpdate t m k v => ob (evO P tm m) fun m => ob (evO P tm k) fun k => ob (evO P tm v) fun v => ob (mapUpd P H t m k v) fun H' => some (undefA, H')
  | .call c => ob (evOs P tm c.args.toList) fun vs => evCallW P K tm H c vs
  | _ => none

/-! ### Regions -/
noncomputable def boolIs (v : AV) (want : Bool) : Bool :=
  match v with
  | .bool b => b == want
  | _ => false
noncomputable def wantedA (ops : Array Oper) (tm : Tr AV) (o : Oper) : Option Bool :=
  match o.guard with
  | none => some true
  | some (j, want) => match ops[j]? with
    | some oj => match oj.dst with
      | some d => ob (tm.get d) fun v => some (boolIs v want)
      | none => some false
    | none => some false
noncomputable def putA (nt : Nat) (tm : Tr AV) (d : Option Tmp) (v : AV) : Option (Tr AV) :=
  match d with
  | some d => chk (Nat.blt d nt) (some (tm.set d v))
  | none => some tm
noncomputable def evOp (K : Kx) (tm : Tr AV) (H : AHeap) (op : Op) : Option (AV × AHeap) :=
  match cls P op with
  | .p => ob (evP P tm op) fun v => some (v, H)
  | .r => ob (evR P tm H op) fun v => some (v, H)
  | .a => ob (evA P tm op) fun (o, k) => some (k.at H.next, newH H o)
  | .w => evW P K tm H op
noncomputable def evOps (K : Kx) (nt : Nat) (ops : Array Oper) : List Oper → Tr AV → AHeap → Option (Tr AV × AHeap)
  | [], tm, H => some (tm, H)
  | o :: r, tm, H =>
    ob (wantedA ops tm o) fun
    | true => ob (evOp P K tm H o.op) fun (v, H') => ob (putA nt tm o.dst v) fun tm' => evOps K nt ops r tm' H'
    | false => ob (putA nt tm o.dst undefA) fun tm' => evOps K nt ops r tm' H

/-! ### Regions that draw their order -/
abbrev Item := Nat × Oper × Nat
noncomputable def maskFind (j : Nat) : List Item → Option Nat
  | [] => none
  | (i, _, m) :: r => cond (Nat.beq i j) (some m) (maskFind j r)
noncomputable def maskOf (acc : List Item) : List Edge → Nat → Option Nat
  | [], s => some s
  | e :: es, s => cond (Region.binds .any e) (ob (maskFind e.on acc) fun m => maskOf acc es (Nat.lor (Nat.lor s (2 ^ e.on)) m)) (maskOf acc es s)
/-- The operations in an order that keeps every edge, the latest first; each with all that must stand before it. -/
noncomputable def planF : Nat → List (Nat × Oper) → List (Nat × Oper) → List Item → Option (List Item)
  | 0, _, _, _ => none
  | f + 1, rem, later, acc =>
    match rem with
    | [] => match later with
      | [] => some acc
      | x :: r => planF f (x :: r).reverse [] acc
    | (i, o) :: r => match maskOf acc o.after.toList 0 with
      | some m => planF f r later ((i, o, m) :: acc)
      | none => planF f r ((i, o) :: later) acc
noncomputable def enumOps : List Oper → Nat → List (Nat × Oper)
  | [], _ => []
  | o :: r, i => (i, o) :: enumOps r (i + 1)
noncomputable def planOf (ops : Array Oper) : Option (List Item) := planF ((ops.size + 2) * (ops.size + 2)) (enumOps ops.toList 0) [] []
noncomputable def bitOf (m i : Nat) : Bool := Nat.testBit m i
noncomputable def inL (t : Nat) : List Nat → Bool
  | [] => false
  | x :: r => cond (Nat.beq x t) true (inL t r)
noncomputable def tmpsOf : List Operand → List Nat
  | [] => []
  | .tmp t :: r => t :: tmpsOf r
  | _ :: r => tmpsOf r
noncomputable def looksA (ops : Array Oper) (o : Oper) : List Nat :=
  match o.guard with
  | none => tmpsOf o.op.operands.toList
  | some (j, _) => match ops[j]? with
    | some oj => match oj.dst with
      | some d => d :: tmpsOf o.op.operands.toList
      | none => tmpsOf o.op.operands.toList
    | none => tmpsOf o.op.operands.toList
noncomputable def dstIn (d : Option Tmp) (l : List Nat) : Bool :=
  match d with
  | some d => inL d l
  | none => false
noncomputable def dstNe (a b : Option Tmp) : Bool :=
  match a, b with
  | some a, some b => !Nat.beq a b
  | _, _ => true
noncomputable def isW (o : Oper) : Bool :=
  match cls P o.op with
  | .w => true
  | _ => false
/-- p stands before q. -/
noncomputable def pairS (ops : Array Oper) (p q : Item) : Bool :=
  dstNe p.2.1.dst q.2.1.dst &&
    (bitOf q.2.2 p.1 || (!(isW P p.2.1 && isW P q.2.1) && !dstIn p.2.1.dst (looksA ops q.2.1) && !dstIn q.2.1.dst (looksA ops p.2.1)))
noncomputable def pairsS (ops : Array Oper) : List Item → Bool
  | [] => true
  | q :: r => r.all (fun p => pairS P ops p q) && pairsS ops r
/-- The plan, where it is sound. -/
noncomputable def planS (ops : Array Oper) : Option (List Item) := ob (planOf ops) fun l => chk (pairsS P ops l) (some l.reverse)

inductive TK where
  | n
  | r (as : List (Nat × AO))
  | a (ao : AO)
  | w (H : AHeap) (F : Nat) (H' : AHeap)
structure TE where
  i : Nat
  o : Oper
  bm : Nat
  tm : Tr AV
  v : AV
  k : TK
structure DS where
  tm : Tr AV
  H : AHeap
  F : Nat
  as : List (Nat × AO)
noncomputable def layA (base m : Nat) : List (Nat × AO) → AHeap → AHeap
  | [], H => H
  | (j, o) :: r, H => cond (bitOf m j) (layA base m r ⟨H.next, H.t.set (base + j) o⟩) (layA base m r H)
/-- What is in m and not in F. -/
noncomputable def mdiff (m F : Nat) : Nat := Nat.xor (Nat.lor m F) F
noncomputable def teOf (K : Kx) (ops : Array Oper) (base : Nat) (it : Item) (s : DS) : Option TE :=
  match it with
  | (i, o, bm) => ob (wantedA ops s.tm o) fun
    | false => some ⟨i, o, bm, s.tm, undefA, .n⟩
    | true => match cls P o.op with
      | .p => ob (evP P s.tm o.op) fun v => some ⟨i, o, bm, s.tm, v, .n⟩
      | .r => ob (evR P s.tm (layA base (mdiff bm s.F) s.as s.H) o.op) fun v => some ⟨i, o, bm, s.tm, v, .r s.as⟩
      | .a => ob (evA P s.tm o.op) fun (ao, k) => some ⟨i, o, bm, s.tm, k.at (base + i), .a ao⟩
      | .w => ob (evW P K s.tm (layA base (mdiff bm s.F) s.as s.H) o.op) fun (v, H') => some ⟨i, o, bm, s.tm, v, .w s.H s.F H'⟩
noncomputable def putD (tm : Tr AV) (d : Option Tmp) (v : AV) : Tr AV :=
  match d with
  | some d => tm.set d v
  | none => tm
noncomputable def nextS (s : DS) (e : TE) : DS :=
  match e.k with
  | .a ao => ⟨putD s.tm e.o.dst e.v, s.H, s.F, (e.i, ao) :: s.as⟩
  | .w _ _ H' => ⟨putD s.tm e.o.dst e.v, H', Nat.lor s.F e.bm, s.as⟩
  | _ => ⟨putD s.tm e.o.dst e.v, s.H, s.F, s.as⟩
noncomputable def dstOK (nt : Nat) (d : Option Tmp) : Bool :=
  match d with
  | some d => Nat.blt d nt
  | none => true
/-- The trace, the latest first. -/
noncomputable def passA (K : Kx) (nt : Nat) (ops : Array Oper) (base : Nat) : List Item → DS → List TE → Option (List TE × DS)
  | [], s, T => some (T, s)
  | it :: r, s, T => chk (dstOK nt it.2.1.dst) (ob (teOf P K ops base it s) fun e => passA K nt ops base r (nextS s e) (e :: T))
end

noncomputable def trOf1 : AV → Tr AV := trOf
/-- Two values are the same, told in steps of n. -/
noncomputable def aaEq (a b : AA) : Bool := Nat.beq a.b b.b && Nat.beq a.off b.off && Nat.beq a.tip b.tip && Nat.beq a.base b.base
noncomputable def fnEq (f g : Fn) : Bool :=
  match f with
  | .func f => match g with
    | .func g => Nat.beq f g
    | _ => false
  | _ => false
mutual
noncomputable def avEq : Nat → AV → AV → Bool
  | 0, _, _ => false
  | n + 1, a, b =>
    match a with
    | .bool a => match b with | .bool b => a == b | _ => false
    | .int k a => match b with | .int k' b => decide (k = k') && a == b | _ => false
    | .str a => match b with | .str b => a == b | _ => false
    | .ptr a => match b with | .ptr b => aaEq a b | _ => false
    | .nilptr => match b with | .nilptr => true | _ => false
    | .slice a l c o => match b with | .slice a' l' c' o' => aaEq a a' && Nat.beq l l' && Nat.beq c c' && Nat.beq o o' | _ => false
    | .nilslice => match b with | .nilslice => true | _ => false
    | .map r => match b with | .map r' => Nat.beq r r' | _ => false
    | .nilmap => match b with | .nilmap => true | _ => false
    | .func f x y => match b with | .func f' x' y' => fnEq f f' && avsEq n x x' && avsEq n y y' | _ => false
    | .nilFunc => match b with | .nilFunc => true | _ => false
    | .nilIface => match b with | .nilIface => true | _ => false
    | .agg k t => match b with | .agg k' t' => Nat.beq k k' && trEq n t t' | _ => false
    | .tup x => match b with | .tup y => avsEq n x y | _ => false
noncomputable def avsEq : Nat → List AV → List AV → Bool
  | 0, _, _ => false
  | n + 1, a, b =>
    match a with
    | [] => match b with | [] => true | _ => false
    | x :: xs => match b with | y :: ys => avEq n x y && avsEq n xs ys | _ => false
noncomputable def trEq : Nat → Tr AV → Tr AV → Bool
  | 0, _, _ => false
  | n + 1, a, b =>
    match a with
    | .nil => match b with | .nil => true | _ => false
    | .node l v r => match b with
      | .node l' v' r' => (match v with | none => (match v' with | none => true | _ => false) | some a => (match v' with | some b => avEq n a b | _ => false)) && trEq n l l' && trEq n r r'
      | _ => false
end
end Go.Ev
