/- Statements, functions, rounds: what the evaluator does. -/
import Derived.Test.YtmlfcaaecofnjaaGreatDoorAmB
set_option linter.unusedVariables false
set_option linter.unusedSimpArgs false
namespace Go.Proofs.YtmlfcaaecofnjaaGreatDoor.AM
open Go Go.RowKit
noncomputable section

inductive Xt where
  | norm
  | exit (id : Nat)
  | ret

def isReady : LoopState → Bool
  | .ready => true
  | _ => false
def isBusy : LoopState → Bool
  | .busy => true
  | _ => false

/-- A jump that a round has left. -/
def vjump : Code → Option Xt
  | .ret => some .ret
  | .exit id => some (.exit id)
  | _ => none

def vrangeFunc (E : Env) (call : Inv) (f : Operand) (ps : Array Tmp) (as bd : Code) (st : St) : Option (Xt × St) :=
  match ev E st.t st.n f with
  | some (.fn g fi cs) =>
    match call (.fn g) (fi ++ .yl (st.h.n + 1) :: cs) ((st.h.new .dfr).new (.loop .ready none st.t st.n ps.toList as bd st.h.n)) with
    | some (_, h) => match h.at_ (st.h.n + 1) with
      | some (.loop s pend t n qs as' bd' D) => bif isBusy s then none else
        (bif Nat.ble E.G (st.h.n + 1) then (match pend with
        | none => some (.norm, { st with h := h.put (st.h.n + 1) (.loop .exhausted pend t n qs as' bd' D), d := st.h.n :: st.d })
        | some c => match vjump c with
          | some x => some (x, { st with h := h.put (st.h.n + 1) (.loop .exhausted pend t n qs as' bd' D), d := st.h.n :: st.d })
          | none => none) else none)
      | _ => none
    | none => none
  | _ => none

def vstep (E : Env) (call : Inv) (out : Bool) (go : Code → St → Option (Xt × St)) (c : Code) (st : St) : Option (Xt × St) :=
  match c with
    | .skip => some (.norm, st)
    | .label _ => some (.norm, st)
    | .ret => some (.ret, st)
    | .exit id => some (.exit id, st)
    | .seq x y => match go x st with
      | none => none
      | some (.norm, s) => go y s
      | some (e, s) => some (e, s)
    | .cond c x y => match ev E st.t st.n c with
      | some (.sc (.bool true)) => go x st
      | some (.sc (.bool false)) => go y st
      | _ => none
    | .block id x => match go x st with
      | none => none
      | some (.exit i, s) => bif Nat.beq i id then some (.norm, s) else some (.exit i, s)
      | some (e, s) => some (e, s)
    | .loop x => match go x st with
      | none => none
      | some (.norm, s) => go (.loop x) s
      | some (e, s) => some (e, s)
    | .scope x => go x st
    | .region _ ops d => match (bif d then vdraw E call ops st else vops E call ops ops.toList st) with
      | some s => some (.norm, s)
      | none => none
    | .rangeFunc f ps as bd => bif out then vrangeFunc E call f ps as bd st else none
    | _ => none

def vcode (E : Env) (call : Inv) (out : Bool) (k : Nat) : Code → St → Option (Xt × St) :=
  Nat.rec (motive := fun _ => Code → St → Option (Xt × St)) (fun _ _ => none) (fun _ go => vstep E call out go) k
theorem vcode_succ (E : Env) (call : Inv) (out : Bool) (k : Nat) (c : Code) (st : St) : vcode E call out (k + 1) c st = vstep E call out (vcode E call out k) c st := rfl

/-- The marks of a function that leaves. -/
def vmarks (E : Env) : List Nat → Hp → Option Hp
  | [], h => some h
  | D :: r, h => match h.at_ D with
    | some .dfr => bif Nat.ble E.G D then vmarks E r (h.put D .dead) else none
    | _ => none

def vloadTmp (E : Env) (t : Tr V) (n : Nat) (h : Hp) (ty : TypeId) (a : Tmp) : Option V :=
  bif Nat.blt a n then (match t.get a with
  | some (.ptr b o) => match h.at_ b, E.P.underlying ty with
    | some (.cells c _ _), some d => bif isAggD d then (match E.P.info? ty with
        | some inf => bif Nat.ble (o + inf.size) c.length then some (.agg ((c.drop o).take inf.size)) else none
        | none => none) else c[o]?
    | _, _ => none
  | _ => none) else none

def vresult (E : Env) (t : Tr V) (n : Nat) (h : Hp) : ResultVar → Option V
  | .tmp a => bif Nat.blt a n then (match t.get a with
    | some v => bif notTup v then some v else none
    | none => none) else none
  | .cell a ty => vloadTmp E t n h ty a

def vresults (E : Env) (t : Tr V) (n : Nat) (h : Hp) : List ResultVar → Option (List V)
  | [] => some []
  | x :: r => match vresult E t n h x with
    | some v => match vresults E t n h r with
      | some vs => some (v :: vs)
      | none => none
    | none => none

def vanswer : List V → V
  | [v] => v
  | vs => .tup vs

def vparams (t : Tr V) : Nat → List V → Tr V
  | _, [] => t
  | i, v :: r => vparams (t.set i v) (i + 1) r

def vfun (E : Env) (call : Inv) (k : Nat) (f : FuncId) (args : List V) (h : Hp) : Option (V × Hp) :=
  match E.P.funcs[f]? with
  | none => none
  | some fn => match fn.body with
    | none => none
    | some c => match vcode E call true k c ⟨vparams .nil 0 args, args.length + (fn.ntmps - args.length), h, []⟩ with
      | some (.norm, s) => match vmarks E s.d s.h with
        | some h1 => match vresults E s.t s.n h1 fn.results.toList with
          | some vs => some (vanswer vs, h1)
          | none => none
        | none => none
      | some (.ret, s) => match vmarks E s.d s.h with
        | some h1 => match vresults E s.t s.n h1 fn.results.toList with
          | some vs => some (vanswer vs, h1)
          | none => none
        | none => none
      | _ => none

def vassign (t : Tr V) (n : Nat) : List Tmp → List V → Option (Tr V)
  | [], [] => some t
  | p :: ps, v :: vs => bif Nat.blt p n then vassign (t.set p v) n ps vs else none
  | _, _ => none

def vround (E : Env) (call : Inv) (k : Nat) (l : Nat) (args : List V) (h : Hp) : Option (V × Hp) :=
  match h.at_ l with
  | some (.loop _ pend t n ps as bd D) => match vassign t n ps args with
    | none => none
    | some t1 => match vcode E call false k as ⟨t1, n, h, []⟩ with
      | some (.norm, s) => match s.h.at_ l with
        | some (.loop .ready pend1 t2 n2 ps2 as2 bd2 D2) => match vcode E call false k bd { s with h := s.h.put l (.loop .busy pend1 t2 n2 ps2 as2 bd2 D2) } with
          | none => none
          | some (x, u) => match u.h.at_ l with
            | some (.loop _ _ t3 n3 ps3 as3 bd3 D3) => match x with
              | .norm => some (.sc (.bool true), u.h.put l (.loop .ready none t3 n3 ps3 as3 bd3 D3))
              | .ret => some (.sc (.bool false), u.h.put l (.loop .done (some .ret) t3 n3 ps3 as3 bd3 D3))
              | .exit id => some (.sc (.bool false), u.h.put l (.loop .done (some (.exit id)) t3 n3 ps3 as3 bd3 D3))
            | _ => none
        | _ => none
      | _ => none
  | _ => none

def vinv (E : Env) (ora : Nat → Inv → Inv) (k : Nat) : Nat → Inv
  | 0 => fun _ _ _ => none
  | m + 1 => fun tg args h => match tg with
    | .fn f => vfun E (ora m (vinv E ora k m)) k f args h
    | .yl l => bif Nat.ble E.G l then vround E (ora m (vinv E ora k m)) k l args h else none

end
end Go.Proofs.YtmlfcaaecofnjaaGreatDoor.AM
