/- Straight code by symbolic runs; passes, functions. -/
import Derived.Test.YtmlfcaaecofnjaaGreatDoorSmW
set_option linter.unusedVariables false
set_option linter.unusedSimpArgs false
namespace Go.Proofs.YtmlfcaaecofnjaaGreatDoor.SM
open Go Go.RowKit
noncomputable section

/-! ### Straight code -/
def scode (E : Env) (w0 : World) (call : Inv) (S : Script) (B : Nat) (out : Bool) (k : Nat) : Code → St → Option (Xt × St × List Prop) :=
  Nat.rec (motive := fun _ => Code → St → Option (Xt × St × List Prop)) (fun _ _ => none) (fun _ go c st =>
    match c with
    | .skip => some (.norm, st, [])
    | .label _ => some (.norm, st, [])
    | .ret => some (.ret, st, [])
    | .exit id => some (.exit id, st, [])
    | .seq x y => match go x st with
      | none => none
      | some (.norm, s, C) => match go y s with
        | some (q, s', D) => some (q, s', C ++ D)
        | none => none
      | some (e, s, C) => some (e, s, C)
    | .cond c x y => match ev E st.t st.n c with
      | some (.sc (.bool true)) => go x st
      | some (.sc (.bool false)) => go y st
      | _ => none
    | .block id x => match S.find (400000 + id) with
      | some (.code k q s) => bif Nat.beq k.B B then (match SM.wk E k st with
        | some (st2, C) => some (q, s, C ++ [Tri E w0 k.B out (.block id x) st2 q s])
        | none => none) else none
      | _ => match go x st with
        | none => none
        | some (q, s, C) => some (blockOut id q, s, C)
    | .scope x => go x st
    | .loop x => match go x st with
      | none => none
      | some (.norm, s, C) => match go (.loop x) s with
        | some (q, s', D) => some (q, s', C ++ D)
        | none => none
      | some (e, s, C) => some (e, s, C)
    | .region _ ops d => match (bif d then sdraw E w0 call S ops st else sops E w0 call S ops ops.toList st) with
      | some (s, C) => some (.norm, s, C)
      | none => none
    | .rangeFunc f ps as bd => match S.find 500000 with
      | some (.code k q s) => bif Nat.beq k.B B then (match SM.wk E k st with
        | some (st2, C) => some (q, s, C ++ [Tri E w0 k.B out (.rangeFunc f ps as bd) st2 q s])
        | none => none) else none
      | _ => none
    | _ => none) k

theorem LTri.of_scode {E : Env} {w0 : World} {call : Inv} {S : Script} {B : Nat} {out : Bool} {c : Code} : ∀ {k : Nat}, (∀ {j : Nat} {st s : St} {q : Xt} {C : List Prop}, j < k → scode E w0 call S B out j c st = some (q, s, C) → AllP C → Tri E w0 B out c st q s) →
    ∀ {st s : St} {q : Xt} {C : List Prop}, scode E w0 call S B out k (.loop c) st = some (q, s, C) → AllP C → LTri E w0 B out c st q s := by
  intro k
  induction k with
  | zero => intro _ st s q C e; cases e
  | succ k ih =>
    intro hk st s q C e hC
    change (match scode E w0 call S B out k c st with
      | none => none
      | some (.norm, s, C) => match scode E w0 call S B out k (.loop c) s with
        | some (q, s', D) => some (q, s', C ++ D)
        | none => none
      | some (e, s, C) => some (e, s, C)) = _ at e
    split at e
    · cases e
    · rename_i s1 C1 h1
      split at e
      · rename_i q' s' D h2
        cases e
        obtain ⟨k1, k2⟩ := AllP.app hC
        exact LTri.pass (hk (Nat.lt_succ_self _) h1 k1) (ih (fun hj => hk (Nat.lt_succ_of_lt hj)) h2 k2)
      · cases e
    · rename_i q1 s1 C1 hne h1
      cases e
      exact LTri.leave (fun h => hne h) (hk (Nat.lt_succ_self _) h1 hC)

theorem Tri.of_scode {E : Env} {w0 : World} {call : Inv} {S : Script} {B : Nat} {out : Bool} (hm : E.P.follows .mixedOrders = true) (hc : CallOK E w0 call) : ∀ {k : Nat} {c : Code} {st s : St} {q : Xt} {C : List Prop},
    scode E w0 call S B out k c st = some (q, s, C) → AllP C → Tri E w0 B out c st q s := by
  intro k
  induction k using Nat.strongRecOn with
  | _ k ihs =>
  cases k with
  | zero => intro c st s q C e; cases e
  | succ k =>
    intro c st s q C e hC
    have ih : ∀ {c : Code} {st s : St} {q : Xt} {C : List Prop}, scode E w0 call S B out k c st = some (q, s, C) → AllP C → Tri E w0 B out c st q s := fun h1 h2 => ihs k (Nat.lt_succ_self _) h1 h2
    have hoc := orc_ok hc S
    cases c with
    | skip => cases e; exact Tri.skip
    | label l => cases e; exact Tri.label
    | ret => cases e; exact Tri.ret
    | exit id => cases e; exact Tri.exit
    | seq x y =>
      change (match scode E w0 call S B out k x st with
        | none => none
        | some (.norm, s, C) => match scode E w0 call S B out k y s with
          | some (q, s', D) => some (q, s', C ++ D)
          | none => none
        | some (e, s, C) => some (e, s, C)) = _ at e
      split at e
      · cases e
      · rename_i s1 C1 h1
        split at e
        · rename_i q' s' D h2
          cases e
          obtain ⟨k1, k2⟩ := AllP.app hC
          exact Tri.seq (ih h1 k1) (ih h2 k2)
        · cases e
      · rename_i q1 s1 C1 hne h1
        cases e
        exact Tri.seq_out (fun h => hne h) (ih h1 hC)
    | cond o x y =>
      change (match ev E st.t st.n o with
        | some (.sc (.bool true)) => scode E w0 call S B out k x st
        | some (.sc (.bool false)) => scode E w0 call S B out k y st
        | _ => none) = _ at e
      split at e
      · rename_i h1; exact Tri.cond_true h1 (ih e hC)
      · rename_i h1; exact Tri.cond_false h1 (ih e hC)
      · cases e
    | block id x =>
      change (match S.find (400000 + id) with
        | some (.code k q s) => bif Nat.beq k.B B then (match SM.wk E k st with
          | some (st2, C) => some (q, s, C ++ [Tri E w0 k.B out (.block id x) st2 q s])
          | none => none) else none
        | _ => match scode E w0 call S B out k x st with
          | none => none
          | some (q, s, C) => some (blockOut id q, s, C)) = _ at e
      split at e
      · rename_i kw q0 s0 hfind
        cases hb : Nat.beq kw.B B with
        | false => rw [hb] at e; cases e
        | true =>
        rw [hb] at e
        have := beq_iff.1 hb
        subst this
        change (match SM.wk E kw st with
          | some (st2, C) => some (q0, s0, C ++ [Tri E w0 kw.B out (.block id x) st2 q0 s0])
          | none => none) = _ at e
        split at e
        · rename_i st2 C2 hwk
          cases e
          obtain ⟨k1, k2⟩ := AllP.app hC
          exact Tri.wk hwk k1 k2
        · cases e
      · split at e
        · cases e
        · rename_i q1 s1 C1 h1
          cases e
          exact Tri.block (ih h1 hC)
    | loop x => exact Tri.loop (LTri.of_scode (fun hj h1 h2 => ihs _ hj h1 h2) e hC)
    | scope x => exact Tri.scope (ih (show scode E w0 call S B out k x st = _ from e) hC)
    | region id ops d =>
      cases d with
      | true =>
        change (match sdraw E w0 call S ops st with
          | some (s, C) => some (Xt.norm, s, C)
          | none => none) = _ at e
        split at e
        · rename_i s1 C1 h1
          cases e
          exact Tri.drawn hm hoc (sdraw_ok h1 hC)
        · cases e
      | false =>
        change (match sops E w0 call S ops ops.toList st with
          | some (s, C) => some (Xt.norm, s, C)
          | none => none) = _ at e
        split at e
        · rename_i s1 C1 h1
          cases e
          exact Tri.region hoc (sops_vops _ h1 hC)
        · cases e
    | rangeFunc f ps as bd =>
      change (match S.find 500000 with
        | some (.code k q s) => bif Nat.beq k.B B then (match SM.wk E k st with
          | some (st2, C) => some (q, s, C ++ [Tri E w0 k.B out (.rangeFunc f ps as bd) st2 q s])
          | none => none) else none
        | _ => none) = _ at e
      split at e
      · rename_i kw q0 s0 hfind
        cases hb : Nat.beq kw.B B with
        | false => rw [hb] at e; cases e
        | true =>
        rw [hb] at e
        have := beq_iff.1 hb
        subst this
        change (match SM.wk E kw st with
          | some (st2, C) => some (q0, s0, C ++ [Tri E w0 kw.B out (.rangeFunc f ps as bd) st2 q0 s0])
          | none => none) = _ at e
        split at e
        · rename_i st2 C2 hwk
          cases e
          obtain ⟨k1, k2⟩ := AllP.app hC
          exact Tri.wk hwk k1 k2
        · cases e
      · cases e
    | _ => cases e


/-- A frame, by the temporaries that are known. -/
def lookS (l : List (Nat × V)) (i : Nat) : V := List.rec (motive := fun _ => V) .unk (fun x _ r => bif Nat.beq x.1 i then x.2 else r) l
def frm (n : Nat) (l : List (Nat × V)) : Tr V := fr ((List.range n).map (lookS l))
abbrev int (x : Int) : V := .sc (.int .i64 x)
abbrev boo (b : Bool) : V := .sc (.bool b)

/-- A pass, and what is kept of it. -/
def spass (E : Env) (w0 : World) (call : Inv) (S : Script) (out : Bool) (k : Wk) (c : Code) (st : St) : Option (Xt × St × List Prop) :=
  match scode E w0 call S k.B out 1000 c st with
  | some (q, s, C) => match wk E k s with
    | some (s2, D) => some (q, s2, C ++ D)
    | none => none
  | none => none

theorem Tri.of_pass {E : Env} {w0 : World} {call : Inv} (S : Script) {out : Bool} (k : Wk) (hm : E.P.follows .mixedOrders = true) (hc : CallOK E w0 call) {c : Code} {st s : St} {q : Xt} (C : List Prop) (e : spass E w0 call S out k c st = some (q, s, C)) (hC : AllP C) : Tri E w0 k.B out c st q s := by
  unfold spass at e
  split at e
  · rename_i q1 s1 C1 h1
    split at e
    · rename_i s2 D h2
      cases e
      obtain ⟨k1, k2⟩ := AllP.app hC
      exact (Tri.of_scode hm hc h1 k1).post h2 k2
    · cases e
  · cases e

/-- No oracle. -/
def nocall : Inv := fun _ _ _ => none
theorem nocall_ok {E : Env} {w0 : World} : CallOK E w0 nocall := ⟨fun _ _ _ _ _ e => (by cases e), fun _ _ _ _ _ e => (by cases e), fun _ _ _ _ _ _ e => (by cases e), fun _ _ _ _ _ _ _ e => (by cases e), fun _ _ _ _ _ _ _ _ e => (by cases e)⟩

def sfun (E : Env) (w0 : World) (S : Script) (fn : Func) (args : List V) (h : Hp) : Option (V × Hp × List Prop) :=
  match fn.body with
  | none => none
  | some c => match scode E w0 nocall S h.n true 1000 c ⟨vparams .nil 0 args, args.length + (fn.ntmps - args.length), h, []⟩ with
    | some (q, s, C) => match (match q with
        | .exit _ => none
        | _ => vmarks E s.d s.h) with
      | some h1 => match vresults E s.t s.n h1 fn.results.toList with
        | some vs => some (vanswer vs, h1, C)
        | none => none
      | none => none
    | none => none

theorem FnOK.of_sfun {E : Env} (hm : E.P.follows .mixedOrders = true) (hname : ∀ (f : Nat) (fn : Func), E.P.funcs[f]? = some fn → (fn.name == "runtime.NumGoroutine") = false) {w0 : World} {f : FuncId} {fn : Func} (hf : E.P.funcs[f]? = some fn) (S : Script) {args : List V} {h h1 : Hp} {v : V} (C : List Prop)
    (e : sfun E w0 S fn args h = some (v, h1, C)) (hC : AllP C) : FnOK E w0 f args h v h1 := by
  unfold sfun at e
  split at e
  · cases e
  · rename_i c hb
    split at e
    · rename_i q s C1 hs
      split at e
      · rename_i h2 hmk
        split at e
        · rename_i vs hvs
          cases e
          have ht := Tri.of_scode hm nocall_ok hs hC
          cases q with
          | norm => exact FnOK.of_tri hname hf hb ht (.inl rfl) hmk hvs
          | ret => exact FnOK.of_tri hname hf hb ht (.inr rfl) hmk hvs
          | exit id => cases hmk
        · cases e
      · cases e
    · cases e

/-- The same, and nothing said of the heap behind the call. -/
def sfunv (E : Env) (w0 : World) (S : Script) (fn : Func) (args : List V) (h : Hp) : Option (V × List Prop) :=
  match sfun E w0 S fn args h with
  | some (v, _, C) => some (v, C)
  | none => none
theorem FnOK.of_sfunv {E : Env} (hm : E.P.follows .mixedOrders = true) (hname : ∀ (f : Nat) (fn : Func), E.P.funcs[f]? = some fn → (fn.name == "runtime.NumGoroutine") = false) {w0 : World} {f : FuncId} {fn : Func} (hf : E.P.funcs[f]? = some fn) (S : Script) {args : List V} {h : Hp} {v : V} (C : List Prop)
    (e : sfunv E w0 S fn args h = some (v, C)) (hC : AllP C) : ∃ h1, FnOK E w0 f args h v h1 := by
  unfold sfunv at e
  split at e
  · rename_i v1 h1 C1 hs
    cases e
    exact ⟨h1, FnOK.of_sfun hm hname hf S _ hs hC⟩
  · cases e

/-- The same, and what one block holds behind the call. -/
def sfunb (E : Env) (w0 : World) (S : Script) (fn : Func) (args : List V) (h : Hp) (i : Nat) : Option (V × Option O × List Prop) :=
  match sfun E w0 S fn args h with
  | some (v, h1, C) => some (v, h1.at_ i, C)
  | none => none
theorem FnOK.of_sfunb {E : Env} (hm : E.P.follows .mixedOrders = true) (hname : ∀ (f : Nat) (fn : Func), E.P.funcs[f]? = some fn → (fn.name == "runtime.NumGoroutine") = false) {w0 : World} {f : FuncId} {fn : Func} (hf : E.P.funcs[f]? = some fn) (S : Script) {args : List V} {h : Hp} {v : V} {i : Nat} {o : O} (C : List Prop)
    (e : sfunb E w0 S fn args h i = some (v, some o, C)) (hC : AllP C) : ∃ h1 : Hp, h1.at_ i = some o ∧ FnOK E w0 f args h v h1 := by
  unfold sfunb at e
  split at e
  · rename_i v1 h1 C1 hs
    simp only [Option.some.injEq, Prod.mk.injEq] at e
    obtain ⟨rfl, e2, rfl⟩ := e
    exact ⟨h1, e2, FnOK.of_sfun hm hname hf S _ hs hC⟩
  · cases e

/-! ### Parts of a body -/
def Func.code (fn : Func) : Code := fn.body.getD .skip
def findBlk (id : Nat) : Code → Option Code
  | .block i x => bif Nat.beq i id then some (.block i x) else findBlk id x
  | .seq x y => match findBlk id x with
    | some r => some r
    | none => findBlk id y
  | .cond _ x y => match findBlk id x with
    | some r => some r
    | none => findBlk id y
  | .loop x => findBlk id x
  | .scope x => findBlk id x
  | .rangeFunc _ _ _ x => findBlk id x
  | _ => none
/-- The block of a number. -/
def blk (fn : Func) (id : Nat) : Code := (findBlk id (Func.code fn)).getD .skip
/-- What a block's loop does in each round. -/
def rnd (fn : Func) (id : Nat) : Code :=
  match blk fn id with
  | .block _ (.loop x) => x
  | _ => .skip
theorem Tri.rnd {E : Env} {w0 : World} {B : Nat} {out : Bool} {fn : Func} {id : Nat} {st s : St} {q : Xt} (hb : blk fn id = .block id (.loop (rnd fn id))) (h : LTri E w0 B out (rnd fn id) st q s) : Tri E w0 B out (blk fn id) st (blockOut id q) s := by
  rw [hb]
  exact Tri.block (Tri.loop h)
end
end Go.Proofs.YtmlfcaaecofnjaaGreatDoor.SM
