/- Symbolic runs of regions and statements, and what they say of the machine. -/
import Derived.Test.YtmlfcaaecofnjaaGreatDoorSmS
set_option linter.unusedVariables false
set_option linter.unusedSimpArgs false
namespace Go.Proofs.YtmlfcaaecofnjaaGreatDoor.SM
open Go Go.RowKit
noncomputable section

/-! ### One operation, a region in the order of its text -/
def sop (E : Env) (w0 : World) (call : Inv) (S : Script) (st : St) (o : Oper) : Option (V × Hp × List Prop) :=
  match S.find (okey o) with
  | some ov => cnd E w0 call st o ov
  | none => match vop0 E call st o with
    | some (v, h') => some (v, h', [])
    | none => none

theorem vop0_orc {E : Env} {w0 : World} {call : Inv} {S : Script} {st : St} {o : Oper} : vop0 E (orc E w0 call S) st o = vop0 E call st o := rfl

theorem sop_vop {E : Env} {w0 : World} {call : Inv} {S : Script} {st : St} {o : Oper} {v : V} {h' : Hp} {C : List Prop} (e : sop E w0 call S st o = some (v, h', C)) (hC : AllP C) : vop E (orc E w0 call S) st o = some (v, h') := by
  unfold sop at e
  unfold vop
  split at e
  · rename_i ov hov
    have : orc E w0 call S (.op st o) [] st.h = some (v, h') := by
      simp only [orc, hov, e, hC, if_true]
    rw [this]
  · rename_i hno
    have : orc E w0 call S (.op st o) [] st.h = none := by simp only [orc, hno]
    rw [this, vop0_orc]
    simp only
    split at e
    · rename_i v1 h1 hv
      cases e
      exact hv
    · cases e

def sops1 (E : Env) (w0 : World) (call : Inv) (S : Script) (ops : Array Oper) (go : St → Option (St × List Prop)) (o : Oper) (st : St) : Option (St × List Prop) :=
  bif isDefer o.op then none else bif vgk ops st.t o then
    (bif vwanted ops st o then
      (match sop E w0 call S st o with
      | some (v, h', C) => match vput st o v h' with
        | some st' => match go st' with
          | some (s, D) => some (s, C ++ D)
          | none => none
        | none => none
      | none => none)
    else match vput st o undefV st.h with
      | some st' => go st'
      | none => none) else none
def sops (E : Env) (w0 : World) (call : Inv) (S : Script) (ops : Array Oper) (l : List Oper) : St → Option (St × List Prop) :=
  List.rec (motive := fun _ => St → Option (St × List Prop)) (fun st => some (st, [])) (fun o _ go st => sops1 E w0 call S ops go o st) l
theorem sops_cons (E : Env) (w0 : World) (call : Inv) (S : Script) (ops : Array Oper) (o : Oper) (r : List Oper) (st : St) : sops E w0 call S ops (o :: r) st = sops1 E w0 call S ops (sops E w0 call S ops r) o st := rfl

theorem sops_vops {E : Env} {w0 : World} {call : Inv} {S : Script} {ops : Array Oper} : ∀ (l : List Oper) {st st' : St} {C : List Prop}, sops E w0 call S ops l st = some (st', C) → AllP C → vops E (orc E w0 call S) ops l st = some st' := by
  intro l
  induction l with
  | nil => intro st st' C e _; cases e; rfl
  | cons o r ih =>
    intro st st' C e hC
    rw [sops_cons] at e
    rw [vops_cons]
    unfold sops1 at e
    unfold vops1
    cases hd : isDefer o.op with
    | true => rw [hd] at e; cases e
    | false =>
    rw [hd] at e
    simp only [cond_false] at e ⊢
    cases hg : vgk ops st.t o with
    | false => rw [hg] at e; cases e
    | true =>
    rw [hg] at e
    simp only [cond_true] at e ⊢
    cases hw : vwanted ops st o with
    | true =>
      rw [hw] at e
      simp only [cond_true] at e ⊢
      split at e
      · rename_i v h' C1 hs
        split at e
        · rename_i st1 hp
          split at e
          · rename_i s D hgo
            cases e
            obtain ⟨h1, h2⟩ := AllP.app hC
            rw [sop_vop hs h1]
            simp only [hp]
            exact ih hgo h2
          · cases e
        · cases e
      · cases e
    | false =>
      rw [hw] at e
      simp only [cond_false] at e ⊢
      split at e
      · rename_i st1 hp
        simp only [hp]
        exact ih e hC
      · cases e

/-! ### A region that draws its order -/
def svpure (E : Env) (S : Script) (t : Tr V) (n : Nat) (o : Oper) : Option (V × List Prop) :=
  match S.find (okey o) with
  | some ov => match pcnd E t n o ov with
    | some r => some r
    | none => match vpure E t n o with
      | some v => some (v, [])
      | none => none
  | none => match vpure E t n o with
    | some v => some (v, [])
    | none => none
def svread (E : Env) (S : Script) (t : Tr V) (n : Nat) (h : Hp) (o : Oper) : Option (V × List Prop) :=
  match S.find (okey o) with
  | some ov => match rcnd E t n h o ov with
    | some r => some r
    | none => match vread E t n h o with
      | some v => some (v, [])
      | none => none
  | none => match vread E t n h o with
    | some v => some (v, [])
    | none => none

section
variable {E : Env} {w0 : World} {call : Inv} {S : Script}
theorem svpure_some {t : Tr V} {n : Nat} {o : Oper} {v : V} {C : List Prop} (e : svpure E S t n o = some (v, C)) (hC : AllP C) : vpureC E (orc E w0 call S) t n o = some v := by
  unfold svpure at e
  unfold vpureC
  split at e
  · rename_i ov hov
    split at e
    · rename_i r hp
      cases e
      have : orc E w0 call S (.pu t n o) [] ⟨0, .nil⟩ = some (v, ⟨0, .nil⟩) := by simp only [orc, hov, hp, hC, if_true]
      rw [this]
    · rename_i hp
      have : orc E w0 call S (.pu t n o) [] ⟨0, .nil⟩ = none := by simp only [orc, hov, hp]
      rw [this]
      simp only
      split at e
      · rename_i v1 hv; cases e; exact hv
      · cases e
  · rename_i hov
    have : orc E w0 call S (.pu t n o) [] ⟨0, .nil⟩ = none := by simp only [orc, hov]
    rw [this]
    simp only
    split at e
    · rename_i v1 hv; cases e; exact hv
    · cases e
theorem svpure_none {t : Tr V} {n : Nat} {o : Oper} (e : svpure E S t n o = none) : vpureC E (orc E w0 call S) t n o = none := by
  unfold svpure at e
  unfold vpureC
  split at e
  · rename_i ov hov
    split at e
    · cases e
    · rename_i hp
      have : orc E w0 call S (.pu t n o) [] ⟨0, .nil⟩ = none := by simp only [orc, hov, hp]
      rw [this]
      simp only
      split at e
      · cases e
      · rename_i hv; exact hv
  · rename_i hov
    have : orc E w0 call S (.pu t n o) [] ⟨0, .nil⟩ = none := by simp only [orc, hov]
    rw [this]
    simp only
    split at e
    · cases e
    · rename_i hv; exact hv
theorem svread_some {t : Tr V} {n : Nat} {h : Hp} {o : Oper} {v : V} {C : List Prop} (e : svread E S t n h o = some (v, C)) (hC : AllP C) : vreadC E (orc E w0 call S) t n h o = some v := by
  unfold svread at e
  unfold vreadC
  split at e
  · rename_i ov hov
    split at e
    · rename_i r hp
      cases e
      have : orc E w0 call S (.rd t n h o) [] h = some (v, ⟨0, .nil⟩) := by simp only [orc, hov, hp, hC, if_true]
      rw [this]
    · rename_i hp
      have : orc E w0 call S (.rd t n h o) [] h = none := by simp only [orc, hov, hp]
      rw [this]
      simp only
      split at e
      · rename_i v1 hv; cases e; exact hv
      · cases e
  · rename_i hov
    have : orc E w0 call S (.rd t n h o) [] h = none := by simp only [orc, hov]
    rw [this]
    simp only
    split at e
    · rename_i v1 hv; cases e; exact hv
    · cases e
end

def sdstep (E : Env) (w0 : World) (call : Inv) (S : Script) (ops : Array Oper) (q : Prep) (n : Nat) (d : List Nat) (i : Nat) (s : S4) (o : Oper) : Option ((V × Tr V × S4) × List Prop) :=
  match q.B.get i with
  | none => none
  | some b => match narrow q n i b s.t (looks ops o) with
    | none => none
    | some r => bif vgk ops r o then (match kd o.op with
      | .mover => match (bif vwanted ops ⟨r, n, s.h, d⟩ o then (match svpure E S r n o with
            | some v => some v
            | none => svread E S r n s.h o) else some (undefV, [])) with
        | none => none
        | some (v, C) => some ((v, r, { s with t := setDst s.t o v }), C)
      | .anchor => match (bif vwanted ops ⟨r, n, s.h, d⟩ o then sop E w0 call S ⟨r, n, s.h, d⟩ o else some (undefV, s.h, [])) with
        | none => none
        | some (v, h1, C) => bif Nat.ble s.h.n h1.n then (match reserve E q.A (i + 1) q.L h1 s.M with
          | none => none
          | some (h2, M2) => some ((v, r, ⟨setDst s.t o v, i + 1, h2, M2⟩), C)) else none
      | .alloc _ => match s.M.get i with
        | none => none
        | some id => bif Nat.ble E.R id then (bif vwanted ops ⟨r, n, s.h, d⟩ o then some ((.ptr id 0, r, { s with t := setDst s.t o (.ptr id 0) }), []) else some ((undefV, r, { s with t := setDst s.t o undefV }), [])) else none) else none

theorem sdstep_ok {E : Env} {w0 : World} {call : Inv} {S : Script} {ops : Array Oper} {q : Prep} {n : Nat} {d : List Nat} {i : Nat} {s : S4} {o : Oper} {r : V × Tr V × S4} {C : List Prop} (e : sdstep E w0 call S ops q n d i s o = some (r, C)) (hC : AllP C) :
    dstep E (orc E w0 call S) ops q n d i s o = some r := by
  unfold sdstep at e
  unfold dstep
  split at e
  · cases e
  · rename_i b hb
    simp only [hb]
    split at e
    · cases e
    · rename_i r' hr
      simp only [hr]
      cases hg : vgk ops r' o with
      | false => rw [hg] at e; cases e
      | true =>
      rw [hg] at e
      simp only [cond_true] at e ⊢
      split at e
      · rename_i hk
        simp only [hk]
        split at e
        · cases e
        · rename_i v C1 hv
          cases e
          cases hw : vwanted ops ⟨r', n, s.h, d⟩ o with
          | false => rw [hw] at hv; cases hv; rfl
          | true =>
            rw [hw] at hv
            simp only [cond_true] at hv ⊢
            split at hv
            · rename_i u hu
              cases hv
              rw [svpure_some (w0 := w0) (call := call) hu hC]
            · rename_i hu
              rw [svpure_none (w0 := w0) (call := call) hu]
              simp only
              rw [svread_some (w0 := w0) (call := call) hv hC]
      · rename_i hk
        simp only [hk]
        split at e
        · cases e
        · rename_i v h1 C1 hv
          cases hle : Nat.ble s.h.n h1.n with
          | false => rw [hle] at e; cases e
          | true =>
          rw [hle] at e
          simp only [cond_true] at e
          split at e
          · cases e
          · rename_i h2 M2 hres
            cases e
            cases hw : vwanted ops ⟨r', n, s.h, d⟩ o with
            | false => rw [hw] at hv; cases hv; simp only [cond_false, hle, cond_true, hres]
            | true =>
              rw [hw] at hv
              simp only [cond_true] at hv ⊢
              rw [sop_vop hv hC]
              simp only [hle, cond_true, hres]
      · rename_i el hk
        simp only [hk]
        split at e
        · cases e
        · rename_i id hid
          simp only [hid]
          cases hG : Nat.ble E.R id with
          | false => rw [hG] at e; cases e
          | true =>
          rw [hG] at e
          simp only [cond_true] at e ⊢
          cases hw : vwanted ops ⟨r', n, s.h, d⟩ o with
          | false => rw [hw] at e; cases e; rfl
          | true => rw [hw] at e; cases e; rfl

def sdraws (E : Env) (w0 : World) (call : Inv) (S : Script) (ops : Array Oper) (q : Prep) (n : Nat) (d : List Nat) : List Oper → Nat → S4 → Option (List Rc × S4 × List Prop)
  | [], _, s => some ([], s, [])
  | o :: l, i, s => match sdstep E w0 call S ops q n d i s o with
    | none => none
    | some ((v, r, s'), C) => match sdraws E w0 call S ops q n d l (i + 1) s' with
      | none => none
      | some (rs, f, D) => some (⟨s, v, r⟩ :: rs, f, C ++ D)

theorem sdraws_ok {E : Env} {w0 : World} {call : Inv} {S : Script} {ops : Array Oper} {q : Prep} {n : Nat} {d : List Nat} : ∀ {l : List Oper} {i : Nat} {s f : S4} {rs : List Rc} {C : List Prop}, sdraws E w0 call S ops q n d l i s = some (rs, f, C) → AllP C →
    draws E (orc E w0 call S) ops q n d l i s = some (rs, f) := by
  intro l
  induction l with
  | nil => intro i s f rs C e _; cases e; rfl
  | cons o l ih =>
    intro i s f rs C e hC
    simp only [sdraws] at e
    split at e
    · cases e
    · rename_i v r s' C1 h1
      split at e
      · cases e
      · rename_i rs' f' D h2
        cases e
        obtain ⟨k1, k2⟩ := AllP.app hC
        simp only [draws, sdstep_ok h1 k1, ih h2 k2]

def schkAt (E : Env) (S : Script) (q : Prep) (n : Nat) (o : Oper) (i b : Nat) (c : Rc) (wt : Bool) (p : Nat) (h : Hp) : Option (List Prop) :=
  bif Nat.beq p c.s.p then some [] else bif admis q.A p i b then (bif wt then (match svpure E S c.r n o with
    | some (_, C) => some C
    | none => match svread E S c.r n h o with
      | some (v, C) => some (C ++ [v = c.v])
      | none => none) else some []) else some []

theorem schkAt_ok {E : Env} {w0 : World} {call : Inv} {S : Script} {q : Prep} {n : Nat} {o : Oper} {i b : Nat} {c : Rc} {wt : Bool} {p : Nat} {h : Hp} {C : List Prop} (e : schkAt E S q n o i b c wt p h = some C) (hC : AllP C) : chkAt E (orc E w0 call S) q n o i b c wt p h = true := by
  unfold schkAt at e
  unfold chkAt
  cases h1 : Nat.beq p c.s.p with
  | true => rfl
  | false =>
  rw [h1] at e
  simp only [cond_false] at e ⊢
  cases h2 : admis q.A p i b with
  | false => rfl
  | true =>
  rw [h2] at e
  simp only [cond_true] at e ⊢
  cases wt with
  | false => rfl
  | true =>
  simp only [cond_true] at e ⊢
  split at e
  · rename_i v C1 hv
    cases e
    rw [svpure_some (w0 := w0) (call := call) hv hC]
  · rename_i hv
    rw [svpure_none (w0 := w0) (call := call) hv]
    simp only
    split at e
    · rename_i v C1 hr
      cases e
      obtain ⟨k1, k2⟩ := AllP.app hC
      have k2 : v = c.v := k2
      rw [svread_some (w0 := w0) (call := call) hr k1]
      simp only
      cases hq : veq v c.v with
      | true => rfl
      | false => simp [k2]
    · cases e

def schkL (f : Nat → Hp → Option (List Prop)) : List (Nat × Hp) → Option (List Prop)
  | [] => some []
  | x :: r => match f x.1 x.2 with
    | none => none
    | some C => match schkL f r with
      | none => none
      | some D => some (C ++ D)
theorem schkL_ok {f : Nat → Hp → Option (List Prop)} {g : Nat → Hp → Bool} (hf : ∀ p h C, f p h = some C → AllP C → g p h = true) : ∀ {l : List (Nat × Hp)} {C : List Prop}, schkL f l = some C → AllP C → (l.all fun x => g x.1 x.2) = true := by
  intro l
  induction l with
  | nil => intro C e _; rfl
  | cons x r ih =>
    intro C e hC
    simp only [schkL] at e
    split at e
    · cases e
    · rename_i C1 h1
      split at e
      · cases e
      · rename_i D h2
        cases e
        obtain ⟨k1, k2⟩ := AllP.app hC
        simp only [List.all_cons, hf _ _ _ h1 k1, ih h2 k2, Bool.and_self]

def schk (E : Env) (S : Script) (ops : Array Oper) (q : Prep) (n : Nat) (d : List Nat) (lv : List (Nat × Hp)) : List Oper → Nat → List Rc → Option (List Prop)
  | [], _, _ => some []
  | _ :: _, _, [] => none
  | o :: l, i, c :: rs => match (match kd o.op with
      | .mover => match q.B.get i with
        | some b => schkL (schkAt E S q n o i b c (vwanted ops ⟨c.r, n, c.s.h, d⟩ o)) lv
        | none => none
      | _ => some []) with
    | none => none
    | some C => match schk E S ops q n d lv l (i + 1) rs with
      | none => none
      | some D => some (C ++ D)

theorem schk_ok {E : Env} {w0 : World} {call : Inv} {S : Script} {ops : Array Oper} {q : Prep} {n : Nat} {d : List Nat} {lv : List (Nat × Hp)} : ∀ {l : List Oper} {i : Nat} {rs : List Rc} {C : List Prop}, schk E S ops q n d lv l i rs = some C → AllP C → chk E (orc E w0 call S) ops q n d lv l i rs = true := by
  intro l
  induction l with
  | nil => intro i rs C e _; rfl
  | cons o l ih =>
    intro i rs C e hC
    cases rs with
    | nil => cases e
    | cons c rs =>
      simp only [schk] at e
      simp only [chk, Bool.and_eq_true]
      split at e
      · cases e
      · rename_i C1 h1
        split at e
        · cases e
        · rename_i D h2
          cases e
          obtain ⟨k1, k2⟩ := AllP.app hC
          refine ⟨?_, ih h2 k2⟩
          cases hk : kd o.op with
          | mover =>
            rw [hk] at h1
            simp only at h1 ⊢
            split at h1
            · rename_i b hb
              simp only [hb]
              exact schkL_ok (g := fun p h => chkAt E (orc E w0 call S) q n o i b c (vwanted ops ⟨c.r, n, c.s.h, d⟩ o) p h) (fun p h C e hC => schkAt_ok e hC) h1 k1
            · cases h1
          | anchor => rfl
          | alloc _ => rfl

def sdraw (E : Env) (w0 : World) (call : Inv) (S : Script) (ops : Array Oper) (st : St) : Option (St × List Prop) :=
  match prep st.n ops.toList 0 ⟨.nil, .nil, [], []⟩ with
  | none => none
  | some q => match reserve E q.A 0 q.L st.h .nil with
    | none => none
    | some (h, M) => match sdraws E w0 call S ops q st.n st.d ops.toList 0 ⟨st.t, 0, h, M⟩ with
      | none => none
      | some (rs, f, C) => match (match q.A with
          | [] => some []
          | _ => schk E S ops q st.n st.d ((0, h) :: q.A.map fun x => (x.1 + 1, (stAt f rs (x.1 + 1)).h)) ops.toList 0 rs) with
        | none => none
        | some D => some (⟨f.t, st.n, f.h, st.d⟩, C ++ D)

theorem sdraw_ok {E : Env} {w0 : World} {call : Inv} {S : Script} {ops : Array Oper} {st st' : St} {C : List Prop} (e : sdraw E w0 call S ops st = some (st', C)) (hC : AllP C) : vdraw E (orc E w0 call S) ops st = some st' := by
  unfold sdraw at e
  unfold vdraw
  split at e
  · cases e
  · rename_i q hq
    simp only [hq]
    split at e
    · cases e
    · rename_i h M hr
      simp only [hr]
      split at e
      · cases e
      · rename_i rs f C1 hs
        split at e
        · cases e
        · rename_i D hch
          cases e
          obtain ⟨k1, k2⟩ := AllP.app hC
          rw [sdraws_ok hs k1]
          simp only
          have : chkAll E (orc E w0 call S) ops q st.n st.d h rs f = true := by
            unfold chkAll
            cases hA : q.A with
            | nil => rfl
            | cons x r =>
              rw [hA] at hch
              simp only
              exact schk_ok hch k2
          rw [this]
          rfl
end
end Go.Proofs.YtmlfcaaecofnjaaGreatDoor.SM
