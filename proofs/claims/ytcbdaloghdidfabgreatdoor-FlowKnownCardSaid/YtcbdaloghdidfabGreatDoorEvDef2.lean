/- PART OF A PROOF: an evaluator over the model (its own text), and that it is sound: what it reckons, the machine does. No condition. -/
import Derived.Test.YtcbdaloghdidfabGreatDoorEvDef
namespace Go.Ev
section
variable (P : Program)
noncomputable def same (x : Option AV) (v : AV) : Bool :=
  match x with
  | some u => avEq 60 u v
  | none => false
/-- p stands before q in the order that is walked; where another order may turn them: what is read is the same. -/
noncomputable def pairD (base : Nat) (p q : TE) : Bool :=
  match p.k, q.k with
  | .w H F _, .r as => bitOf q.bm p.i || same (evR P q.tm (layA base (mdiff q.bm F) as H) q.o.op) q.v
  | .r as, .w _ F H' => bitOf q.bm p.i || same (evR P p.tm (layA base (mdiff p.bm (Nat.lor F q.bm)) as H') p.o.op) p.v
  | _, _ => true
noncomputable def isRW (e : TE) : Bool :=
  match e.k with
  | .r _ => true
  | .w _ _ _ => true
  | _ => false
noncomputable def onlyRW : List TE → List TE
  | [] => []
  | e :: r => cond (isRW e) (e :: onlyRW r) (onlyRW r)
noncomputable def allD (base : Nat) (q : TE) : List TE → Bool
  | [] => true
  | p :: r => pairD P base p q && allD base q r
noncomputable def pairsD (base : Nat) : List TE → Bool
  | [] => true
  | q :: r => allD P base q r && pairsD base r
noncomputable def evDraw (K : Kx) (nt : Nat) (ops : Array Oper) (s : AS) : Option AS :=
  ob (planS P ops) fun l =>
    ob (passA P K nt ops s.H.next l ⟨s.tm, ⟨s.H.next + ops.size, s.H.t⟩, 0, []⟩ []) fun (T, e) =>
      chk (pairsD P s.H.next (onlyRW T)) (some ⟨e.tm, layA s.H.next (mdiff (2 ^ ops.size - 1) e.F) e.as e.H, s.df⟩)
noncomputable def evRegion (K : Kx) (nt : Nat) (ops : Array Oper) (draw : Bool) (s : AS) : Option AS :=
  match draw with
  | true => evDraw P K nt ops s
  | false => ob (evOps P K nt ops ops.toList s.tm s.H) fun (tm, H) => some ⟨tm, H, s.df⟩

/-! ### Code -/
noncomputable def iter : Nat → (AS → Option (Ex × AS)) → AS → Option (Ex × AS)
  | 0, _, _ => none
  | f + 1, g, s => ob (g s) fun (e, s1) => match e with
    | .normal => iter f g s1
    | _ => some (e, s1)
noncomputable def inBlk (id : Nat) (e : Ex) : Ex :=
  match e with
  | .exit i => cond (Nat.beq i id) .normal (.exit i)
  | e => e
noncomputable def jumpEx : Option Code → Option Ex
  | none => some .normal
  | some .ret => some .ret
  | some (.exit id) => some (.exit id)
  | _ => none
/-- A range over a function: the record is l, the function has come back. -/
noncomputable def endL (H : AHeap) (l : Nat) : Option (Ex × AHeap) :=
  ob (loopAt H l) fun r => chk (!isBusy r.state) (ob (jumpEx r.pend) fun e => some (e, putH H l (.loop { r with state := .exhausted })))
noncomputable def isFuncV : AV → Bool
  | .func (.func _) _ _ => true
  | _ => false
noncomputable def evRange (K : Kx) (ro : Option Nat) (nt : Nat) (g : Operand) (ps : Array Tmp) (assign body : Code) (s : AS) : Option (Ex × AS) :=
  match ro with
  | none =>
    ob (evO P s.tm g) fun gv =>
      match gv with
      | .func (.func f) first cap =>
        ob (K.call f (first ++ ([.func (.yield (s.H.next + 1)) [] []] ++ cap))
            (newH (newH s.H .dfr) (.loop ⟨.ready, none, s.tm, nt, ps.toList, assign, body⟩))) fun (_, H) =>
          ob (endL H (s.H.next + 1)) fun (e, H') => some (e, ⟨s.tm, H', s.H.next :: s.df⟩)
      | _ => none
  | some l =>
    ob (loopAt s.H l) fun _ => ob (evO P s.tm g) fun gv =>
      match gv with
      | .func (.func f) first cap =>
        ob (K.call f (first ++ ([.func (.yield s.H.next) [] []] ++ cap))
            (newH s.H (.loop ⟨.ready, none, s.tm, nt, ps.toList, assign, body⟩))) fun (_, H) =>
          ob (endL H s.H.next) fun (e, H') => some (e, ⟨s.tm, H', s.df⟩)
      | _ => none
noncomputable def evCode (K : Kx) (ro : Option Nat) (lf nt : Nat) : Code → AS → Option (Ex × AS)
  | .skip, s => some (.normal, s)
  | .region _ ops draw, s => ob (evRegion P K nt ops draw s) fun s1 => some (.normal, s1)
  | .seq a b, s => ob (evCode K ro lf nt a s) fun (e, s1) => match e with
    | .normal => evCode K ro lf nt b s1
    | _ => some (e, s1)
  | .cond c a b, s => ob (evO P s.tm c) fun
    | .bool true => evCode K ro lf nt a s
    | .bool false => evCode K ro lf nt b s
    | _ => none
  | .block id b, s => ob (evCode K ro lf nt b s) fun (e, s1) => some (inBlk id e, s1)
  | .loop b, s => iter lf (evCode K ro lf nt b) s
  | .exit id, s => some (.exit id, s)
  | .label _, s => some (.normal, s)
  | .goto l, s => some (.goto l, s)
  | .ret, s => some (.ret, s)
  | .rangeFunc g ps a b, s => evRange P K ro nt g ps a b s
  | _, _ => none

/-! ### Functions -/
noncomputable def bindA : List AV → Nat → Tr AV → Tr AV
  | [], _, t => t
  | v :: r, i, t => bindA r (i + 1) (t.set i v)
noncomputable def resOne (s : AS) : ResultVar → Option AV
  | .tmp t => s.tm.get t
  | .cell a t => ob (s.tm.get a) fun
    | .ptr a => load P s.H t a
    | _ => none
noncomputable def resAll (s : AS) : List ResultVar → Option (List AV)
  | [] => some []
  | r :: rs => ob (resOne P s r) fun v => ob (resAll s rs) fun vs => some (v :: vs)
noncomputable def resOf (fn : Func) (s : AS) : Option AV := ob (resAll P s fn.results.toList) fun
  | [v] => some v
  | vs => some (.tup vs)
noncomputable def shutAll : List Nat → AHeap → Option AHeap
  | [], H => some H
  | b :: r, H => ob (H.t.get b) fun
    | .dfr => shutAll r (putH H b .shut)
    | _ => none
noncomputable def leftOK : Ex → Bool
  | .normal => true
  | .ret => true
  | _ => false
noncomputable def evFn (K : Kx) (lf : Nat) (f : FuncId) (args : List AV) (H : AHeap) : Option (AV × AHeap) :=
  ob P.funcs[f]? fun fn => ob fn.body fun c => chk (Nat.ble args.length fn.ntmps)
    (ob (evCode P K none lf fn.ntmps c ⟨bindA args 0 .nil, H, []⟩) fun (e, s) =>
      chk (leftOK e) (ob (shutAll s.df s.H) fun H' => ob (resOf P fn ⟨s.tm, H', []⟩) fun v => some (v, H')))
noncomputable def orE (a : Option (AV × AHeap)) (b : Option (AV × AHeap)) : Option (AV × AHeap) :=
  match a with
  | some r => some r
  | none => b
/-- The evaluator, n calls deep. N: functions without a body. O: what is known of functions. -/
noncomputable def kx (N O : FuncId → List AV → AHeap → Option (AV × AHeap)) (lf : Nat) : Nat → Kx
  | 0 => ⟨N, O, fun _ _ _ _ => none⟩
  | n + 1 => ⟨N, fun f args H => orE (O f args H) (evFn P (kx N O lf n) lf f args H), fun l nt c s => evCode P (kx N O lf n) (some l) lf nt c s⟩
end
end Go.Ev
