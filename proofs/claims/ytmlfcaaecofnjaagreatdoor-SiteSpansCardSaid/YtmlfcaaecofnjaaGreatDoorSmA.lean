/- One operation, calls among them; a region in the order of its text. -/
import Derived.Test.YtmlfcaaecofnjaaGreatDoorSm9
set_option linter.unusedVariables false
set_option linter.unusedSimpArgs false
namespace Go.Proofs.YtmlfcaaecofnjaaGreatDoor.SM
open Go Go.RowKit
noncomputable section

def FF (ro : Option Nat) : Fence := { Fence.wide with round := ro }
theorem FF_depth (ro : Option Nat) : (FF ro).depth.isSome = false := rfl
theorem FF_fn (ro : Option Nat) (f : FuncId) : (FF ro).fn f := trivial
theorem FF_none : FF none = Fence.wide := rfl

structure St where
  t : Tr V
  n : Nat
  h : Hp
  d : List Nat

/-- The evaluator's state is the machine's. -/
structure SR (E : Env) (w0 : World) (σ : Ren) (st : St) (a : Act) (w : World) : Prop where
  wr : WR E.R w0 σ st.h w
  tr : TR σ st.t st.n a.tmps
  mr : F2 (fun (D : Nat) (d : Deferred) => ∃ D', σ D = some D' ∧ d = { target := .collected D', args := #[] }) st.d a.defers
  gr : GR E σ

inductive CallT where
  | fn (f : FuncId)
  | yl (l : Nat)
  /-- One operation, in the order of the text. -/
  | op (st : St) (o : Oper)
  /-- An operation that asks nothing of the world. -/
  | pu (t : Tr V) (n : Nat) (o : Oper)
  /-- An operation that only reads. -/
  | rd (t : Tr V) (n : Nat) (h : Hp) (o : Oper)

abbrev Inv := CallT → List V → Hp → Option (V × Hp)

/-- The answer of a call: a value and a heap that are the evaluator's. -/
def Post (E : Env) (w0 : World) (σ : Ren) (v : V) (h' : Hp) : Ending → World → Prop := fun e w' => ∃ v' σ', e = .returned v' ∧ Ren.le σ σ' ∧ WR E.R w0 σ' h' w' ∧ RT σ' v v'

def isDefer : Op → Bool
  | .defer _ => true
  | _ => false

/-- One operation does what is said of it. -/
def OpOK (E : Env) (w0 : World) (st : St) (o : Oper) (v : V) (h' : Hp) : Prop :=
  ∀ (σ : Ren) (w : World) (a : Act), SR E w0 σ st a w → ∀ (a1 : Act) (K : Act → World → Prop) (Q : Exit → Act → World → Prop) (ro : Option Nat) (m : Nat), execOp a1.eval o = execOp a.eval o →
    (∀ (v' : Value) (w' : World) (σ' : Ren), Ren.le σ σ' → WR E.R w0 σ' h' w' → RT σ' v v' → K (a1.put o.dst v') w') → o.wpIn (FF ro) m E.P a1 w K Q
def Plain (o : Oper) : Prop := isDefer o.op = false ∧ ∀ cs b, o.op ≠ .select cs b
def PuOK (E : Env) (t : Tr V) (n : Nat) (o : Oper) (v : V) : Prop := Plain o ∧ ∀ (σ : Ren) (a : Act), GR E σ → TR σ t n a.tmps → ∃ v', Ans E.P a.eval o v' ∧ RT σ v v'
def RdOK (E : Env) (w0 : World) (t : Tr V) (n : Nat) (h : Hp) (o : Oper) (v : V) : Prop :=
  Plain o ∧ ∀ (σ : Ren) (a : Act) (w : World), GR E σ → TR σ t n a.tmps → WR E.R w0 σ h w → ∃ v', (execOp a.eval o).run E.P w = .ok (.value v') w ∧ RT σ v v'
def FnOK (E : Env) (w0 : World) (f : FuncId) (args : List V) (h : Hp) (v : V) (h' : Hp) : Prop :=
  ∀ (σ : Ren) (w : World) (args' : List Value), WR E.R w0 σ h w → GR E σ → F2 (RV σ) args args' →
    (callFunc f ⟨args'⟩).run E.P w = .ok (.enter f ⟨args'⟩) w ∧ ∀ m, CallsIn Fence.wide m E.P f ⟨args'⟩ w (Post E w0 σ v h')
def YlOK (E : Env) (w0 : World) (l : Nat) (args : List V) (h : Hp) (v : V) (h' : Hp) : Prop :=
  ∀ (σ : Ren) (w : World) (args' : List Value), WR E.R w0 σ h w → GR E σ → F2 (RV σ) args args' →
    ∀ l', σ l = some l' → ∃ (fn : FuncId) (tmps : Array Value) (as bd : Code), (Instr.yield l' ⟨args'⟩).run E.P w = .ok (.round l' fn tmps as bd) w ∧ ∀ m, RoundIn Fence.wide m E.P l' fn tmps as bd w (Post E w0 σ v h')

/-- What the evaluator says of a call the machine does. -/
structure CallOK (E : Env) (w0 : World) (call : Inv) : Prop where
  fn : ∀ f args h v h', call (.fn f) args h = some (v, h') → FnOK E w0 f args h v h'
  yl : ∀ l args h v h', call (.yl l) args h = some (v, h') → YlOK E w0 l args h v h'
  op : ∀ st o args h v h', call (.op st o) args h = some (v, h') → isDefer o.op = false → OpOK E w0 st o v h'
  pu : ∀ t n o args h v h', call (.pu t n o) args h = some (v, h') → PuOK E t n o v
  rd : ∀ t n hp o args h v h', call (.rd t n hp o) args h = some (v, h') → RdOK E w0 t n hp o v

def vargs (E : Env) (t : Tr V) (n : Nat) : List Operand → Option (List V)
  | [] => some []
  | x :: r => match ev E t n x with
    | some v => bif notTup v then (match vargs E t n r with | some vs => some (v :: vs) | none => none) else none
    | none => none

def vcall (E : Env) (call : Inv) (st : St) (c : Call) : Option (V × Hp) :=
  match c.callee with
  | .value f => match ev E st.t st.n f, vargs E st.t st.n c.args.toList with
    | some (.fn g fi cs), some as => (match E.X g (fi ++ as ++ cs) with
    | some v => some (v, st.h)
    | none => call (.fn g) (fi ++ as ++ cs) st.h)
    | some (.yl l), some as => call (.yl l) as st.h
    | _, _ => none
  | _ => none

def vop0 (E : Env) (call : Inv) (st : St) (o : Oper) : Option (V × Hp) :=
  match vpure E st.t st.n o with
  | some v => some (v, st.h)
  | none => match vread E st.t st.n st.h o with
    | some v => some (v, st.h)
    | none => match veff E st.t st.n st.h o with
      | some r => some r
      | none => match o.op with
        | .call c => vcall E call st c
        | _ => none

def vop (E : Env) (call : Inv) (st : St) (o : Oper) : Option (V × Hp) :=
  match call (.op st o) [] st.h with
  | some r => some r
  | none => vop0 E call st o

section
variable {E : Env} {w0 : World} {call : Inv} {σ : Ren} {st : St} {a : Act} {w : World} {h' : Hp} {ro : Option Nat} {m : Nat}

theorem vargs_rel {t : Tr V} {n : Nat} (ht : TR σ t n a.tmps) (hG : GR E σ) : ∀ {xs : List Operand} {vs : List V}, vargs E t n xs = some vs → F2 (RV σ) vs (xs.map a.eval) := by
  intro xs
  induction xs with
  | nil => intro vs h; cases h; exact .nil
  | cons x r ih =>
    intro vs h
    simp only [vargs] at h
    cases hx : ev E t n x with
    | none => rw [hx] at h; cases h
    | some v =>
      rw [hx] at h
      simp only at h
      cases hl : notTup v with
      | false => rw [hl] at h; cases h
      | true =>
        rw [hl] at h
        simp only [cond_true] at h
        cases hr : vargs E t n r with
        | none => rw [hr] at h; cases h
        | some us => rw [hr] at h; cases h; exact .cons ((ev_rel ht hG hx).of_notTup hl) (ih hr)

theorem F2.leafV {vs : List V} {vs' : List Value} (f : F2 (RL σ) vs vs') : F2 (RV σ) vs vs' := f.mono fun _ _ h => .cell (.leaf h)

/-- One operation that is wanted. -/
theorem vop0_wp (hc : CallOK E w0 call) (s : SR E w0 σ st a w) {o : Oper} (hd : isDefer o.op = false) {v : V} (e : vop0 E call st o = some (v, h')) {K : Act → World → Prop} {Q : Exit → Act → World → Prop}
    {a1 : Act} (he : execOp a1.eval o = execOp a.eval o)
    (hK : ∀ (v' : Value) (w' : World) (σ' : Ren), Ren.le σ σ' → WR E.R w0 σ' h' w' → RT σ' v v' → K (a1.put o.dst v') w') : o.wpIn (FF ro) m E.P a1 w K Q := by
  have hsem : o.semAt (FF ro).round a1.eval = execOp a1.eval o := Oper.semAt_eq _ _ o fun c hc => by rw [hc] at hd; cases hd
  refine ⟨fun f _ => FF_fn ro f, ?_⟩
  rw [hsem, he]
  unfold vop0 at e
  split at e
  · rename_i u hu
    cases e
    obtain ⟨v', h1, h2⟩ := vpure_sound s.tr s.gr hu
    rw [h1 w]
    exact hK v' w σ (Ren.le_refl _) s.wr h2
  · split at e
    · rename_i u hu
      cases e
      obtain ⟨v', h1, h2⟩ := vread_sound s.wr s.tr s.gr hu
      rw [h1]
      exact hK v' w σ (Ren.le_refl _) s.wr h2
    · split at e
      · rename_i r hr
        cases e
        obtain ⟨v', w', σ', h1, h2, h3, h4⟩ := veff_sound s.wr s.tr s.gr hr
        rcases h1 with h1 | ⟨h1, hu⟩
        · rw [h1]; exact hK v' w' σ' h2 h3 h4
        · rw [h1]; subst hu; exact hK undef w' σ' h2 h3 h4
      · split at e
        · rename_i c ho
          unfold vcall at e
          split at e
          · rename_i f hcal
            split at e
            · rename_i g fi cs as hf has
              obtain ⟨fi', cs', e1, e2, e3⟩ := (ev_rel s.tr s.gr hf).fn_inv
              have hargs : F2 (RV σ) (fi ++ as ++ cs) (fi' ++ c.args.toList.map a.eval ++ cs') := (e1.leafV.append (vargs_rel s.tr s.gr has)).append e2.leafV
              split at e
              · rename_i v0 hX
                cases e
                obtain ⟨v', q1, q2⟩ := E.hX σ g _ _ _ w hX hargs
                have hrun : (execOp a.eval o).run E.P w = .ok (.value v') w := by
                  have harr : ((⟨fi'⟩ : Array Value) ++ c.args.map a.eval ++ (⟨cs'⟩ : Array Value)) = ⟨fi' ++ c.args.toList.map a.eval ++ cs'⟩ := by
                    apply Array.ext'; simp
                  simp only [execOp, ho, resolve, hcal, e3, Deferred.ofValue, Sem.run_bind, Sem.run_pure, Result.andThen_ok, invoke, harr, q1]
                rw [hrun]
                exact hK v' w σ (Ren.le_refl _) s.wr q2
              obtain ⟨q1, q2⟩ := hc.fn _ _ _ _ _ e σ w _ s.wr s.gr hargs
              have hrun : (execOp a.eval o).run E.P w = .ok (.enter g ⟨fi' ++ c.args.toList.map a.eval ++ cs'⟩) w := by
                have harr : ((⟨fi'⟩ : Array Value) ++ c.args.map a.eval ++ (⟨cs'⟩ : Array Value)) = ⟨fi' ++ c.args.toList.map a.eval ++ cs'⟩ := by
                  apply Array.ext'; simp
                simp only [execOp, ho, resolve, hcal, e3, Deferred.ofValue, Sem.run_bind, Sem.run_pure, Result.andThen_ok, invoke, harr, q1]
              rw [hrun]
              refine ⟨fun hn => (by cases hn), ?_⟩
              refine CallsIn.mono (F := FF ro) (q2 (m - 1)) ?_
              rintro en w' ⟨v', σ', rfl, k1, k2, k3⟩
              exact hK v' w' σ' k1 k2 k3
            · rename_i l as hf has
              obtain ⟨l', e1, e3⟩ := (ev_rel s.tr s.gr hf).yl_inv
              obtain ⟨fn, tmps, asg, bd, q1, q2⟩ := hc.yl _ _ _ _ _ e σ w _ s.wr s.gr (vargs_rel s.tr s.gr has) l' e1
              have hrun : (execOp a.eval o).run E.P w = .ok (.round l' fn tmps asg bd) w := by
                have harr : ((#[] : Array Value) ++ c.args.map a.eval) = ⟨c.args.toList.map a.eval⟩ := by
                  apply Array.ext'; simp
                simp only [execOp, ho, resolve, hcal, e3, Deferred.ofValue, Sem.run_bind, Sem.run_pure, Result.andThen_ok, invoke, harr, q1]
              rw [hrun]
              refine ⟨fun hn => (by cases hn), ?_⟩
              refine RoundIn.mono (F := FF ro) (q2 (m - 1)) ?_
              rintro en w' ⟨v', σ', rfl, k1, k2, k3⟩
              exact hK v' w' σ' k1 k2 k3
            · cases e
          · cases e
        · cases e

theorem vop_wp (hc : CallOK E w0 call) (s : SR E w0 σ st a w) {o : Oper} (hd : isDefer o.op = false) {v : V} (e : vop E call st o = some (v, h')) {K : Act → World → Prop} {Q : Exit → Act → World → Prop}
    {a1 : Act} (he : execOp a1.eval o = execOp a.eval o)
    (hK : ∀ (v' : Value) (w' : World) (σ' : Ren), Ren.le σ σ' → WR E.R w0 σ' h' w' → RT σ' v v' → K (a1.put o.dst v') w') : o.wpIn (FF ro) m E.P a1 w K Q := by
  unfold vop at e
  split at e
  · rename_i r hr
    cases e
    exact hc.op _ _ _ _ _ _ hr hd σ w a s a1 K Q ro m he hK
  · exact vop0_wp hc s hd e he hK
theorem opOK_of_vop0 (hc : CallOK E w0 call) {o : Oper} (hd : isDefer o.op = false) {v : V} (e : vop0 E call st o = some (v, h')) : OpOK E w0 st o v h' :=
  fun σ w a s a1 K Q ro m he hK => vop0_wp hc s hd e he hK

/-! #### Guards -/
def vyield (ops : Array Oper) (st : St) (j : Nat) : Option Bool :=
  match ops[j]? with
  | some o => match o.dst with
    | some d => bif Nat.blt d st.n then (match st.t.get d with
      | some (.sc (.bool b)) => some b
      | _ => none) else none
    | none => none
  | none => none

theorem RT.bool_inv {v : V} {b : Bool} (h : RT σ v (.bool b)) (hn : noUnk1 v = true) : v = .sc (.bool b) := by
  cases h with
  | val h => cases h with
    | cell h => cases h with
      | leaf h => cases h; rfl
      | unk => cases hn

/-- The guard is known. -/
def vgk (ops : Array Oper) (t : Tr V) (o : Oper) : Bool :=
  match o.guard with
  | none => true
  | some (j, _) => match ops[j]? with
    | none => true
    | some o' => match o'.dst with
      | none => true
      | some d => match t.get d with
        | none => true
        | some v => noUnk1 v

theorem vyield_eq {ops : Array Oper} (ht : TR σ st.t st.n a.tmps) (j : Nat) (hk : ∀ o d v, ops[j]? = some o → o.dst = some d → st.t.get d = some v → noUnk1 v = true) : yielded ops a.tmps j = vyield ops st j := by
  unfold yielded vyield
  cases ho : ops[j]? with
  | none => simp
  | some o =>
    simp only [Option.bind_some]
    cases hd : o.dst with
    | none => simp
    | some d =>
      simp only [Option.bind_some]
      by_cases hlt : d < st.n
      · rw [blt_iff.2 hlt]
        simp only [cond_true]
        have hs := ht.size
        have hr := ht.at_ d hlt
        have hget : a.tmps[d]? = some (a.tmps.getD d undef) := by
          have : d < a.tmps.size := by rw [hs]; exact hlt
          rw [Array.getD_eq_getD_getElem?, Array.getElem?_eq_getElem this]; rfl
        rw [hget]
        cases hg : st.t.get d with
        | none =>
          rw [hg] at hr
          obtain ⟨vs', h1, h2⟩ := RT.tup_inv (vs := []) hr
          rw [h2]
        | some v =>
          rw [hg] at hr
          have hnu := hk o d v ho hd hg
          simp only [Option.getD_some] at hr
          generalize a.tmps.getD d undef = u at hr
          cases u <;> first
            | (rw [hr.bool_inv hnu]; done)
            | skip
          all_goals
            cases v with
            | sc x => first
              | (have := hr.sc_inv; subst this; rfl)
              | (have := hr.sc_inv; cases this)
            | _ => rfl
      · have hb : Nat.blt d st.n = false := by
          cases hh : Nat.blt d st.n with
          | false => rfl
          | true => exact absurd (blt_iff.1 hh) hlt
        rw [hb]
        have hs := ht.size
        have : a.tmps[d]? = none := Array.getElem?_eq_none (by rw [hs]; exact Nat.le_of_not_lt hlt)
        rw [this]
        rfl

def vwanted (ops : Array Oper) (st : St) (o : Oper) : Bool :=
  match o.guard with
  | none => true
  | some (j, b) => match vyield ops st j with
    | some c => bif b then c else !c
    | none => false
theorem vwanted_eq {ops : Array Oper} (ht : TR σ st.t st.n a.tmps) (o : Oper) (hk : vgk ops st.t o = true) : Region.wanted o (yielded ops a.tmps) = vwanted ops st o := by
  unfold Region.wanted vwanted
  cases hg : o.guard with
  | none => rfl
  | some p =>
    obtain ⟨j, b⟩ := p
    have hk' : ∀ o d v, ops[j]? = some o → o.dst = some d → st.t.get d = some v → noUnk1 v = true := by
      intro o' d v h1 h2 h3
      unfold vgk at hk
      simp only [hg, h1, h2, h3] at hk
      exact hk
    simp only [vyield_eq ht j hk']
    cases vyield ops st j with
    | none => rfl
    | some c => cases b <;> cases c <;> rfl

def vput (st : St) (o : Oper) (v : V) (h' : Hp) : Option St :=
  match o.dst with
  | none => some { st with h := h' }
  | some d => bif Nat.blt d st.n then some { st with t := st.t.set d v, h := h' } else none

theorem vput_rel (s : SR E w0 σ st a w) {o : Oper} {v : V} {v' : Value} {w' : World} {σ' : Ren} {st' : St} (e : vput st o v h' = some st') (hle : Ren.le σ σ') (hw : WR E.R w0 σ' h' w') (hv : RT σ' v v') : SR E w0 σ' st' (a.put o.dst v') w' := by
  have mr' := s.mr.mono (R' := fun (D : Nat) (d : Deferred) => ∃ D', σ' D = some D' ∧ d = { target := .collected D', args := #[] }) fun D d ⟨D', h1, h2⟩ => ⟨D', (hle _ _ h1).1, h2⟩
  unfold vput at e
  split at e
  · rename_i hd
    cases e
    rw [hd]
    exact ⟨hw, s.tr.mono hle, mr', s.gr.mono hle⟩
  · rename_i d hd
    cases hb : Nat.blt d st.n with
    | false => rw [hb] at e; cases e
    | true =>
      rw [hb] at e
      cases e
      rw [hd]
      exact ⟨hw, (s.tr.mono hle).set hv (blt_iff.1 hb), mr', s.gr.mono hle⟩

/-- The operations in the order of the text. -/
def vops1 (E : Env) (call : Inv) (ops : Array Oper) (go : St → Option St) (o : Oper) (st : St) : Option St :=
  bif isDefer o.op then none else bif vgk ops st.t o then
    (bif vwanted ops st o then
      (match vop E call st o with
      | some (v, h') => match vput st o v h' with
        | some st' => go st'
        | none => none
      | none => none)
    else match vput st o undefV st.h with
      | some st' => go st'
      | none => none) else none
def vops (E : Env) (call : Inv) (ops : Array Oper) (l : List Oper) : St → Option St :=
  List.rec (motive := fun _ => St → Option St) (fun st => some st) (fun o _ go st => vops1 E call ops go o st) l
theorem vops_cons (E : Env) (call : Inv) (ops : Array Oper) (o : Oper) (r : List Oper) (st : St) : vops E call ops (o :: r) st = vops1 E call ops (vops E call ops r) o st := rfl

theorem vops_wp (hc : CallOK E w0 call) {ops : Array Oper} {Q : Exit → Act → World → Prop} : ∀ (l : List Oper) (k : Nat) {σ : Ren} {st st' : St} {a : Act} {w : World}, (∀ j, l[j]? = ops[k + j]?) → vops E call ops l st = some st' → SR E w0 σ st a w →
    (∀ (σ' : Ren) (a' : Act) (w' : World), Ren.le σ σ' → SR E w0 σ' st' a' w' → Q .normal a' w') → wpOpsIn (FF ro) m E.P ops Q (List.range' k l.length) a w := by
  intro l
  induction l with
  | nil => intro k σ st st' a w _ e s hQ; cases e; exact hQ σ a w (Ren.le_refl _) s
  | cons o r ih =>
    intro k σ st st' a w hl e s hQ
    have ho : ops[k]? = some o := by have := hl 0; simpa using this.symm
    have hl' : ∀ j, r[j]? = ops[k + 1 + j]? := fun j => by
      have := hl (j + 1)
      rw [show k + 1 + j = k + (j + 1) by omega]
      simpa using this
    simp only [List.length_cons, List.range'_succ, wpOpsIn, ho]
    simp only [vops_cons, vops1] at e
    cases hd : isDefer o.op with
    | true => rw [hd] at e; cases e
    | false =>
    rw [hd] at e
    simp only [cond_false] at e
    cases hgk : vgk ops st.t o with
    | false => rw [hgk] at e; cases e
    | true =>
    rw [hgk] at e
    simp only [cond_true] at e
    rw [vwanted_eq s.tr o hgk]
    cases hw : vwanted ops st o with
    | true =>
      rw [hw] at e
      simp only [cond_true] at e
      simp only [if_true]
      split at e
      · rename_i v h' hv
        split at e
        · rename_i st1 hp
          refine vop_wp hc s hd hv rfl fun v' w' σ' hle hwr hrt => ?_
          exact ih (k + 1) hl' e (vput_rel s hp hle hwr hrt) fun σ'' a' w'' h1 h2 => hQ σ'' a' w'' (Ren.le_trans hle h1) h2
        · cases e
      · cases e
    | false =>
      rw [hw] at e
      simp only [cond_false] at e
      simp only [Bool.false_eq_true, if_false]
      split at e
      · rename_i st1 hp
        refine ⟨fun f _ => FF_fn ro f, ?_⟩
        exact ih (k + 1) hl' e (vput_rel s hp (Ren.le_refl _) s.wr (RT.undef _)) hQ
      · cases e

end
end
end Go.Proofs.YtmlfcaaecofnjaaGreatDoor.SM
