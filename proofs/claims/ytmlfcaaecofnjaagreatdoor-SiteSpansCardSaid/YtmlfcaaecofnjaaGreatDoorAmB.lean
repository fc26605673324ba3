/- A region that draws its order of evaluation: what the evaluator does. -/
import Derived.Test.YtmlfcaaecofnjaaGreatDoorAmA
set_option linter.unusedVariables false
set_option linter.unusedSimpArgs false
namespace Go.Proofs.YtmlfcaaecofnjaaGreatDoor.AM
open Go Go.RowKit
noncomputable section

def bit (m n : Nat) : Bool := Nat.beq (Nat.land (Nat.shiftRight m n) 1) 1
def setBit (m n : Nat) : Nat := Nat.lor m (Nat.shiftLeft 1 n)

/-- An edge that binds whatever the order. -/
def bnd (e : Edge) : Bool :=
  match e.ground with
  | .textOnly _ => false
  | .gcOnly _ => false
  | _ => true

inductive Kd where
  | mover
  | anchor
  | alloc (e : TypeId)

def kd : Op → Kd
  | .alloc e => .alloc e
  | .box .. => .anchor
  | .store .. => .anchor
  | .buildSlice .. => .anchor
  | .makeSlice .. => .anchor
  | .makeMap .. => .anchor
  | .mapUpdate .. => .anchor
  | .insert .. => .anchor
  | .range .. => .anchor
  | .next .. => .anchor
  | .call c => match c.callee with
    | .builtin .len => .mover
    | .builtin .cap => .mover
    | .builtin .min => .mover
    | .builtin .max => .mover
    | .builtin .real => .mover
    | .builtin .imag => .mover
    | .builtin .complex => .mover
    | _ => .anchor
  | _ => .mover

/-- The operations before it. -/
def befOf (B : Tr Nat) (i : Nat) : List Edge → Nat → Option Nat
  | [], acc => some acc
  | e :: r, acc => bif bnd e then (bif Nat.blt e.on i then (bif bit acc e.on then befOf B i r acc else
      match B.get e.on with
      | some b => befOf B i r (Nat.lor (setBit acc e.on) b)
      | none => none) else none) else befOf B i r acc

structure Prep where
  B : Tr Nat
  W : Tr Nat
  A : List (Nat × Nat)
  L : List (Nat × Nat × TypeId)

def prep (n : Nat) : List Oper → Nat → Prep → Option Prep
  | [], _, p => some p
  | o :: r, i, p => match befOf p.B i o.after.toList 0 with
    | none => none
    | some b => match (match o.dst with
        | none => some p.W
        | some d => bif Nat.blt d n then (match p.W.get d with | none => some (p.W.set d i) | some _ => none) else none) with
      | none => none
      | some W => match kd o.op with
        | .mover => prep n r (i + 1) ⟨p.B.set i b, W, p.A, p.L⟩
        | .anchor => bif isDefer o.op then none else bif p.A.all (fun x => bit b x.1) then prep n r (i + 1) ⟨p.B.set i b, W, p.A ++ [(i, b)], p.L⟩ else none
        | .alloc e => prep n r (i + 1) ⟨p.B.set i b, W, p.A, p.L ++ [(i, b, e)]⟩

/-- At the heap behind the anchors before p: may the operation i, these before it, come up? -/
def admis (A : List (Nat × Nat)) (p i b : Nat) : Bool := A.all fun x => bif Nat.blt x.1 p then !(bit x.2 i) else !(bit b x.1)

def looks (ops : Array Oper) (o : Oper) : List Nat := o.looksAt ops

/-- Is the writer of d surely before i, or surely behind it? -/
def sees (p : Prep) (i b d : Nat) : Bool :=
  match p.W.get d with
  | none => true
  | some j => bif Nat.beq i j then true else bif bit b j then true else match p.B.get j with
    | some bj => bit bj i
    | none => false

/-- The temporaries that the operation looks at. -/
def narrow (p : Prep) (n i b : Nat) (t : Tr V) : List Nat → Option (Tr V)
  | [] => some .nil
  | d :: r => match narrow p n i b t r with
    | none => none
    | some q => bif sees p i b d then (match t.get d with
        | some v => some (q.set d v)
        | none => some q) else none

/-- The new blocks of one heap. -/
def reserve (E : Env) (A : List (Nat × Nat)) (p : Nat) : List (Nat × Nat × TypeId) → Hp → Tr Nat → Option (Hp × Tr Nat)
  | [], h, M => some (h, M)
  | (i, b, e) :: r, h, M => bif admis A p i b then (match vzero E e, M.get i with
      | some zs, none => reserve E A p r (h.new (.cells zs e false)) (M.set i h.n)
      | _, _ => none) else reserve E A p r h M

structure S4 where
  t : Tr V
  p : Nat
  h : Hp
  M : Tr Nat

structure Rc where
  s : S4
  v : V
  r : Tr V

def setDst (t : Tr V) (o : Oper) (v : V) : Tr V :=
  match o.dst with
  | some x => t.set x v
  | none => t

/-- One operation, in the order of the text. -/
def dstep (E : Env) (call : Inv) (ops : Array Oper) (q : Prep) (n : Nat) (d : List Nat) (i : Nat) (s : S4) (o : Oper) : Option (V × Tr V × S4) :=
  match q.B.get i with
  | none => none
  | some b => match narrow q n i b s.t (looks ops o) with
    | none => none
    | some r => match kd o.op with
      | .mover => match (bif vwanted ops ⟨r, n, s.h, d⟩ o then (match vpure E r n o with
            | some v => some v
            | none => vread E r n s.h o) else some undefV) with
        | none => none
        | some v => some (v, r, { s with t := setDst s.t o v })
      | .anchor => match (bif vwanted ops ⟨r, n, s.h, d⟩ o then vop E call ⟨r, n, s.h, d⟩ o else some (undefV, s.h)) with
        | none => none
        | some (v, h1) => bif Nat.ble s.h.n h1.n then (match reserve E q.A (i + 1) q.L h1 s.M with
          | none => none
          | some (h2, M2) => some (v, r, ⟨setDst s.t o v, i + 1, h2, M2⟩)) else none
      | .alloc _ => match s.M.get i with
        | none => none
        | some id => bif Nat.ble E.G id then (bif vwanted ops ⟨r, n, s.h, d⟩ o then some (.ptr id 0, r, { s with t := setDst s.t o (.ptr id 0) }) else some (undefV, r, { s with t := setDst s.t o undefV })) else none

/-- The operations in the order of the text. -/
def draws (E : Env) (call : Inv) (ops : Array Oper) (q : Prep) (n : Nat) (d : List Nat) : List Oper → Nat → S4 → Option (List Rc × S4)
  | [], _, s => some ([], s)
  | o :: l, i, s => match dstep E call ops q n d i s o with
    | none => none
    | some (v, r, s') => match draws E call ops q n d l (i + 1) s' with
      | none => none
      | some (rs, f) => some (⟨s, v, r⟩ :: rs, f)

mutual
def veq : V → V → Bool
  | .sc a, .sc b => veqS a b
  | .ptr b o, .ptr b' o' => Nat.beq b b' && Nat.beq o o'
  | .sl b o l e c, .sl b' o' l' e' c' => Nat.beq b b' && Nat.beq o o' && Nat.beq l l' && Nat.beq e e' && veqO c c'
  | .mp a, .mp b => Nat.beq a b
  | .yl a, .yl b => Nat.beq a b
  | .fn f a b, .fn f' a' b' => Nat.beq f f' && veqs a a' && veqs b b'
  | .agg a, .agg b => veqs a b
  | .tup a, .tup b => veqs a b
  | _, _ => false
def veqs : List V → List V → Bool
  | [], [] => true
  | a :: r, b :: s => veq a b && veqs r s
  | _, _ => false
def veqO : Option Nat → Option Nat → Bool
  | none, none => true
  | some a, some b => Nat.beq a b
  | _, _ => false
def veqS : Value → Value → Bool
  | .bool a, .bool b => bif a then b else !b
  | .int k a, .int k' b => decide (k = k') && decide (a = b)
  | .string a, .string b => decide (a = b)
  | .pointer none, .pointer none => true
  | .map none, .map none => true
  | .nilFunc, .nilFunc => true
  | .nilIface, .nilIface => true
  | .slice none 0 0, .slice none 0 0 => true
  | .float k a, .float k' b => decide (k = k') && decide (a = b)
  | _, _ => false
end

/-- What reads memory reads the same in whatever heap it may come up. -/
def chkAt (E : Env) (q : Prep) (n : Nat) (o : Oper) (i b : Nat) (c : Rc) (wt : Bool) (p : Nat) (h : Hp) : Bool :=
  bif Nat.beq p c.s.p then true else bif admis q.A p i b then (bif wt then (match vpure E c.r n o with
    | some _ => true
    | none => match vread E c.r n h o with
      | some v => veq v c.v
      | none => false) else true) else true

def stAt (f : S4) : List Rc → Nat → S4
  | [], _ => f
  | c :: _, 0 => c.s
  | _ :: r, k + 1 => stAt f r k

def chk (E : Env) (ops : Array Oper) (q : Prep) (n : Nat) (d : List Nat) (lv : List (Nat × Hp)) : List Oper → Nat → List Rc → Bool
  | [], _, _ => true
  | _ :: _, _, [] => false
  | o :: l, i, c :: rs => (match kd o.op with
      | .mover => match q.B.get i with
        | some b => lv.all fun x => chkAt E q n o i b c (vwanted ops ⟨c.r, n, c.s.h, d⟩ o) x.1 x.2
        | none => false
      | _ => true) && chk E ops q n d lv l (i + 1) rs

def chkAll (E : Env) (ops : Array Oper) (q : Prep) (n : Nat) (d : List Nat) (h : Hp) (rs : List Rc) (f : S4) : Bool :=
  match q.A with
  | [] => true
  | _ => chk E ops q n d ((0, h) :: q.A.map fun x => (x.1 + 1, (stAt f rs (x.1 + 1)).h)) ops.toList 0 rs

def vdraw (E : Env) (call : Inv) (ops : Array Oper) (st : St) : Option St :=
  match prep st.n ops.toList 0 ⟨.nil, .nil, [], []⟩ with
  | none => none
  | some q => match reserve E q.A 0 q.L st.h .nil with
    | none => none
    | some (h, M) => match draws E call ops q st.n st.d ops.toList 0 ⟨st.t, 0, h, M⟩ with
      | none => none
      | some (rs, f) => bif chkAll E ops q st.n st.d h rs f then some ⟨f.t, st.n, f.h, st.d⟩ else none

end
end Go.Proofs.YtmlfcaaecofnjaaGreatDoor.AM
