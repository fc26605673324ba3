/- Symbolic runs: a script says what some operations answer, and the run collects what is to be shown of it. -/
import Derived.Test.YtmlfcaaecofnjaaGreatDoorSmG
set_option linter.unusedVariables false
set_option linter.unusedSimpArgs false
namespace Go.Proofs.YtmlfcaaecofnjaaGreatDoor.SM
open Go Go.RowKit
noncomputable section

def AllP : List Prop → Prop
  | [] => True
  | [p] => p
  | p :: q :: r => p ∧ AllP (q :: r)
theorem AllP.cons {p : Prop} {l : List Prop} (h : AllP (p :: l)) : p ∧ AllP l := by
  cases l with
  | nil => exact ⟨h, trivial⟩
  | cons q r => exact h
theorem AllP.app {l m : List Prop} (h : AllP (l ++ m)) : AllP l ∧ AllP m := by
  induction l with
  | nil => exact ⟨trivial, h⟩
  | cons p l ih =>
    obtain ⟨h1, h2⟩ := AllP.cons h
    obtain ⟨h3, h4⟩ := ih h2
    refine ⟨?_, h4⟩
    cases l with
    | nil => exact h1
    | cons q r => exact ⟨h1, h3⟩


/-- Less of a state. -/
structure Wk where
  B : Nat
  /-- old number, new number, is the block as it was -/
  L : List (Nat × Nat × Bool)
  keep : List Nat
  /-- temporaries that are as they were -/
  fixed : List Nat
  n : Nat

/-- What a script says. -/
inductive Ov where
  | eq (v : V)
  | ev (v : V)
  | ix (m : Nat)
  | ixv (m : Nat) (v : V)
  | ld (v : V)
  | bin (b : Bool)
  | st (c : List V)
  | ap (c : List V)
  | raw (v : V) (h : Hp)
  | call (v : V) (h : Hp)
  /-- a call that leaves the heap as it is -/
  | cv (v : V)
  /-- a call that answers a slice of a new block -/
  | cn (n es : Nat) (cap : Option Nat) (c : List V) (e : TypeId) (sp : Bool)
  /-- what is appended has so many elements, and these cells -/
  | al (c : List V) (m : Nat)
  | code (k : Wk) (q : Xt) (st : St)

abbrev Script := List (Nat × Ov)
def Script.find (S : Script) (k : Nat) : Option Ov :=
  List.rec (motive := fun _ => Option Ov) none (fun x _ r => bif Nat.beq x.1 k then some x.2 else r) S

def okey (o : Oper) : Nat :=
  match o.dst with
  | some d => d
  | none => match o.op with
    | .store _ (.tmp a) _ => 100000 + a
    | .mapUpdate _ (.tmp a) _ _ => 200000 + a
    | _ => 300000

/-- Two values compared. -/
def BinIs (E : Env) (op : BinOp) (xT : TypeId) (x y : Operand) (X Y : Value) (b : Bool) : Prop := ∀ w, (do eqGuard op xT x y X Y; binOp op xT X Y).run E.P w = .ok (.bool b) w

/-- Operations that ask nothing of the world, and that a check may halt. -/
def kindP : Op → Bool
  | .load .. => false
  | .lookup .. => false
  | .call c => match c.callee with
    | .builtin .append => false
    | .builtin .copy => false
    | .value _ => false
    | _ => true
  | .convert .. => true
  | .binOp .. => true
  | .unOp .. => true
  | .index .. => true
  | .slice .. => true
  | _ => false

/-- What is to be shown of a pure operation. -/
def pcnd (E : Env) (t : Tr V) (n : Nat) (o : Oper) (ov : Ov) : Option (V × List Prop) :=
  match ov with
  | .eq v => match vpure E t n o with
    | some v0 => some (v, [v0 = v])
    | none => none
  | .ev v => match kindP o.op with
    | true => some (v, [vpure E t n o = some v])
    | false => none
  | .ix m => match o.op with
    | .indexAddr xt x ix => match ev E t n ix, E.P.underlying xt, ev E t n x with
      | some (.sc (.int k i)), some (.slice el), some (.sl b off len es cap) => match E.P.info? el with
        | some inf => some (.ptr b (off + m * inf.size), [i = (m : Int), m < len])
        | none => none
      | some (.sc (.int k i)), some (.array len el), some (.ptr b off) => match E.P.info? el with
        | some inf => some (.ptr b (off + m * inf.size), [i = (m : Int), m < len])
        | none => none
      | _, _, _ => none
    | _ => none
  | .ixv m v => match o.op with
    | .index xt x ix => match ev E t n ix, E.P.underlying xt, ev E t n x with
      | some (.sc (.int k i)), some (.array len el), some (.agg cs) => match E.P.info? el with
        | some inf => some (v, [i = (m : Int), m < len, vpart E el cs (m * inf.size) = some v])
        | none => none
      | _, _, _ => none
    | _ => none
  | .bin b => match o.op with
    | .binOp op xT x y _ => match plainOf E t n x, plainOf E t n y with
      | some X, some Y => some (.sc (.bool b), [BinIs E op xT x y X Y b])
      | _, _ => none
    | _ => none
  | _ => none

theorem asN_int {k : IntKind} {i : Int} {m : Nat} (h : i = (m : Int)) : asN (.sc (.int k i)) = some m := by subst h; rfl

theorem pureP_ok {E : Env} {t : Tr V} {n : Nat} {o : Oper} {v : V} (e : vpure E t n o = some v) : PuOK E t n o v := by
  refine ⟨?_, fun σ a g ht => vpure_sound ht g e⟩
  unfold vpure at e
  unfold Plain
  cases ho : o.op <;> rw [ho] at e <;> first
    | (cases e; done)
    | exact ⟨rfl, fun cs b h => by cases h⟩

theorem pcnd_ok {E : Env} {t : Tr V} {n : Nat} {o : Oper} {ov : Ov} {v : V} {C : List Prop} (e : pcnd E t n o ov = some (v, C)) (hC : AllP C) : PuOK E t n o v := by
  unfold pcnd at e
  split at e
  · split at e
    · rename_i v0 hv
      cases e
      have : _ = _ := hC
      subst this
      exact pureP_ok hv
    · cases e
  · split at e
    · cases e
      exact pureP_ok hC
    · cases e
  · split at e
    · rename_i xt x ix ho
      split at e
      · rename_i k i el b off len es cap h1 h2 h3
        split at e
        · rename_i inf hinf
          cases e
          obtain ⟨hi, hl⟩ := hC
          have hl : _ < _ := hl
          refine pureP_ok ?_
          simp only [vpure, ho, vindexAddr, h1, h2, h3, asN_int hi, hinf, blt_iff.2 hl, cond_true]
        · cases e
      · rename_i k i len el b off h1 h2 h3
        split at e
        · rename_i inf hinf
          cases e
          obtain ⟨hi, hl⟩ := hC
          have hl : _ < _ := hl
          refine pureP_ok ?_
          simp only [vpure, ho, vindexAddr, h1, h2, h3, asN_int hi, hinf, blt_iff.2 hl, cond_true]
        · cases e
      · cases e
    · cases e
  · split at e
    · rename_i xt x ix ho
      split at e
      · rename_i k i len el cs h1 h2 h3
        split at e
        · rename_i inf hinf
          cases e
          obtain ⟨hi, hl, hp⟩ := hC
          have hp : _ = _ := hp
          refine pureP_ok ?_
          simp only [vpure, ho, vindex, h1, h2, h3, asN_int hi, hinf, blt_iff.2 hl, cond_true, hp]
        · cases e
      · cases e
    · cases e
  · split at e
    · rename_i op xT x y yT ho
      split at e
      · rename_i X Y h1 h2
        cases e
        have hC : BinIs _ _ _ _ _ _ _ _ := hC
        refine ⟨⟨by rw [ho]; rfl, fun cs b h => by rw [ho] at h; cases h⟩, fun σ a g ht => ⟨.bool _, fun w => ?_, .val (.cell (.leaf (.sc rfl)))⟩⟩
        have e1 := plainOf_rel ht g h1
        have e2 := plainOf_rel ht g h2
        have := hC w
        simp only [execOp, ho, e1, e2]
        simp only [Sem.run_bind] at this ⊢
        rw [this]
        rfl
      · cases e
    · cases e
  · cases e

/-- What is to be shown of an operation that reads. -/
def rcnd (E : Env) (t : Tr V) (n : Nat) (h : Hp) (o : Oper) (ov : Ov) : Option (V × List Prop) :=
  match ov with
  | .eq v => match vread E t n h o with
    | some v0 => some (v, [v0 = v])
    | none => none
  | .ld v => match o.op with
    | .load ty x => match ev E t n x, E.P.underlying ty with
      | some (.ptr b off), some d => match h.at_ b with
        | some (.cells c _ _) => bif isAggD d then (match v, E.P.info? ty with
            | .agg cs, some inf => bif Nat.blt 0 inf.size then (bif Nat.beq cs.length inf.size then some (v, [(c.drop off).take inf.size = cs]) else none) else none
            | _, _ => none) else some (v, [c[off]? = some v])
        | _ => none
      | _, _ => none
    | .lookup .. => some (v, [vread E t n h o = some v])
    | _ => none
  | _ => none

theorem readP_ok {E : Env} {w0 : World} {t : Tr V} {n : Nat} {h : Hp} {o : Oper} {v : V} (e : vread E t n h o = some v) : RdOK E w0 t n h o v := by
  refine ⟨?_, fun σ a w g ht r => vread_sound r ht g e⟩
  unfold vread at e
  unfold Plain
  cases ho : o.op <;> rw [ho] at e <;> first
    | (cases e; done)
    | exact ⟨rfl, fun cs b h => by cases h⟩

theorem rcnd_ok {E : Env} {w0 : World} {t : Tr V} {n : Nat} {h : Hp} {o : Oper} {ov : Ov} {v : V} {C : List Prop} (e : rcnd E t n h o ov = some (v, C)) (hC : AllP C) : RdOK E w0 t n h o v := by
  unfold rcnd at e
  split at e
  · split at e
    · rename_i v0 hv
      cases e
      have : _ = _ := hC
      subst this
      exact readP_ok hv
    · cases e
  · split at e
    · rename_i ty x ho
      split at e
      · rename_i b off d h1 h2
        split at e
        · rename_i c el sp h3
          cases hd : isAggD d with
          | true =>
            rw [hd] at e
            simp only [cond_true] at e
            split at e
            · rename_i cs inf hinf
              cases hb : Nat.blt 0 inf.size with
              | false => rw [hb] at e; cases e
              | true =>
              rw [hb] at e
              simp only [cond_true] at e
              cases hq : Nat.beq cs.length inf.size with
              | false => rw [hq] at e; cases e
              | true =>
              rw [hq] at e
              cases e
              have hC : _ = _ := hC
              have hl := beq_iff.1 hq
              have h0 := blt_iff.1 hb
              have hle : Nat.ble (off + inf.size) c.length = true := by
                apply Nat.ble_eq_true_of_le
                have := congrArg List.length hC
                simp at this
                omega
              refine readP_ok ?_
              simp only [vread, ho, vload, h1, h2, h3, hd, cond_true, hinf, hle, hC]
            · cases e
          | false =>
            rw [hd] at e
            cases e
            have hC : _ = _ := hC
            refine readP_ok ?_
            simp only [vread, ho, vload, h1, h2, h3, hd, cond_false, hC]
        · cases e
      · cases e
    · cases e; exact readP_ok hC
    · cases e
  · cases e

section
variable {E : Env} {w0 : World} {call : Inv} {st : St} {o : Oper} {v : V} {h' : Hp}

theorem sem_plain {a1 : Act} {ro : Option Nat} (hd : isDefer o.op = false) : o.semAt (FF ro).round a1.eval = execOp a1.eval o :=
  Oper.semAt_eq _ _ o fun c hc => by rw [hc] at hd; cases hd

theorem opOK_of_pu (p : PuOK E st.t st.n o v) : OpOK E w0 st o v st.h := by
  intro σ w a s a1 K Q ro m he hK
  refine ⟨fun f _ => FF_fn ro f, ?_⟩
  rw [sem_plain p.1.1, he]
  obtain ⟨v', h1, h2⟩ := p.2 σ a s.gr s.tr
  rw [h1 w]
  exact hK v' w σ (Ren.le_refl _) s.wr h2

theorem opOK_of_rd (p : RdOK E w0 st.t st.n st.h o v) : OpOK E w0 st o v st.h := by
  intro σ w a s a1 K Q ro m he hK
  refine ⟨fun f _ => FF_fn ro f, ?_⟩
  rw [sem_plain p.1.1, he]
  obtain ⟨v', h1, h2⟩ := p.2 σ a w s.gr s.tr s.wr
  rw [h1]
  exact hK v' w σ (Ren.le_refl _) s.wr h2

theorem opOK_of_eff (hd : isDefer o.op = false) (p : ∀ (σ : Ren) (w : World) (a : Act), SR E w0 σ st a w → Eff E w0 a.eval o σ w v h') : OpOK E w0 st o v h' := by
  intro σ w a s a1 K Q ro m he hK
  refine ⟨fun f _ => FF_fn ro f, ?_⟩
  rw [sem_plain hd, he]
  obtain ⟨v', w', σ', h1, h2, h3, h4⟩ := p σ w a s
  rcases h1 with h1 | ⟨h1, hu⟩
  · rw [h1]; exact hK v' w' σ' h2 h3 h4
  · rw [h1]; subst hu; exact hK undef w' σ' h2 h3 h4

theorem opOK_of_fn {c : Call} {f : Operand} {g : FuncId} {fi cs as : List V} (ho : o.op = .call c) (hcal : c.callee = .value f) (hf : ev E st.t st.n f = some (.fn g fi cs)) (has : vargs E st.t st.n c.args.toList = some as)
    (p : FnOK E w0 g (fi ++ as ++ cs) st.h v h') : OpOK E w0 st o v h' := by
  intro σ w a s a1 K Q ro m he hK
  have hd : isDefer o.op = false := by rw [ho]; rfl
  refine ⟨fun f _ => FF_fn ro f, ?_⟩
  rw [sem_plain hd, he]
  obtain ⟨fi', cs', e1, e2, e3⟩ := (ev_rel s.tr s.gr hf).fn_inv
  have hargs : F2 (RV σ) (fi ++ as ++ cs) (fi' ++ c.args.toList.map a.eval ++ cs') := (e1.leafV.append (vargs_rel s.tr s.gr has)).append e2.leafV
  obtain ⟨q1, q2⟩ := p σ w _ s.wr s.gr hargs
  have hrun : (execOp a.eval o).run E.P w = .ok (.enter g ⟨fi' ++ c.args.toList.map a.eval ++ cs'⟩) w := by
    have harr : ((⟨fi'⟩ : Array Value) ++ c.args.map a.eval ++ (⟨cs'⟩ : Array Value)) = ⟨fi' ++ c.args.toList.map a.eval ++ cs'⟩ := by
      apply Array.ext'; simp
    simp only [execOp, ho, resolve, hcal, e3, Deferred.ofValue, Sem.run_bind, Sem.run_pure, Result.andThen_ok, invoke, harr, q1]
  rw [hrun]
  refine ⟨fun hn => (by cases hn), ?_⟩
  refine CallsIn.mono (F := FF ro) (q2 (m - 1)) ?_
  rintro en w' ⟨v', σ', rfl, k1, k2, k3⟩
  exact hK v' w' σ' k1 k2 k3

theorem opOK_of_yl {c : Call} {f : Operand} {l : Nat} {as : List V} (ho : o.op = .call c) (hcal : c.callee = .value f) (hf : ev E st.t st.n f = some (.yl l)) (has : vargs E st.t st.n c.args.toList = some as)
    (p : YlOK E w0 l as st.h v h') : OpOK E w0 st o v h' := by
  intro σ w a s a1 K Q ro m he hK
  have hd : isDefer o.op = false := by rw [ho]; rfl
  refine ⟨fun f _ => FF_fn ro f, ?_⟩
  rw [sem_plain hd, he]
  obtain ⟨l', e1, e3⟩ := (ev_rel s.tr s.gr hf).yl_inv
  obtain ⟨fn, tmps, asg, bd, q1, q2⟩ := p σ w _ s.wr s.gr (vargs_rel s.tr s.gr has) l' e1
  have hrun : (execOp a.eval o).run E.P w = .ok (.round l' fn tmps asg bd) w := by
    have harr : ((#[] : Array Value) ++ c.args.map a.eval) = ⟨c.args.toList.map a.eval⟩ := by
      apply Array.ext'; simp
    simp only [execOp, ho, resolve, hcal, e3, Deferred.ofValue, Sem.run_bind, Sem.run_pure, Result.andThen_ok, invoke, harr, q1]
  rw [hrun]
  refine ⟨fun hn => (by cases hn), ?_⟩
  refine RoundIn.mono (F := FF ro) (q2 (m - 1)) ?_
  rintro en w' ⟨v', σ', rfl, k1, k2, k3⟩
  exact hK v' w' σ' k1 k2 k3

theorem opOK_of_vop0n (hc : CallOK E w0 call) (hd : isDefer o.op = false) (e : vop0 E call st o = some (v, h')) : OpOK E w0 st o v h' := opOK_of_vop0 hc hd e
end

/-- The blocks that values name. -/
def idsOf (l : List V) : List Nat := List.rec (motive := fun _ => List Nat) [] (fun v _ r => match v with
  | .ptr b _ => b :: r
  | .sl b _ _ _ _ => b :: r
  | .mp b => b :: r
  | _ => r) l
def objsOf (h : Hp) (l : List V) : List (Nat × O) := List.rec (motive := fun _ => List (Nat × O)) [] (fun i _ r => match h.at_ i with
  | some o => (i, o) :: r
  | none => r) (idsOf l)
def HasAll (h : Hp) : List (Nat × O) → Prop
  | [] => True
  | x :: r => h.at_ x.1 = some x.2 ∧ HasAll h r
/-- A call that leaves whatever heap it meets, where these blocks lie in it. -/
def CvOK (E : Env) (w0 : World) (g : FuncId) (args : List V) (objs : List (Nat × O)) (v : V) : Prop := ∀ h, HasAll h objs → FnOK E w0 g args h v h
/-- A call that answers a slice of a new block, whatever heap it meets. -/
def CnOK (E : Env) (w0 : World) (g : FuncId) (args : List V) (objs : List (Nat × O)) (n es : Nat) (cap : Option Nat) (c : List V) (e : TypeId) (sp : Bool) : Prop :=
  ∀ h, HasAll h objs → FnOK E w0 g args h (.sl h.n 0 n es cap) (h.new (.cells c e sp))
theorem objsOf_has (h : Hp) (l : List V) : HasAll h (objsOf h l) := by
  unfold objsOf
  induction idsOf l with
  | nil => trivial
  | cons i r ih =>
    change HasAll h (match h.at_ i with
      | some o => (i, o) :: _
      | none => _)
    split
    · rename_i o ho; exact ⟨ho, ih⟩
    · exact ih

/-- What is to be shown of any operation. -/
def cnd (E : Env) (w0 : World) (call : Inv) (st : St) (o : Oper) (ov : Ov) : Option (V × Hp × List Prop) :=
  match pcnd E st.t st.n o ov with
  | some (v, C) => some (v, st.h, C)
  | none => match rcnd E st.t st.n st.h o ov with
    | some (v, C) => some (v, st.h, C)
    | none => match ov with
      | .eq v => match vop0 E call st o with
        | some (v0, h0) => some (v, h0, [v0 = v])
        | none => none
      | .raw v h' => some (v, h', [OpOK E w0 st o v h'])
      | .call v h' => match o.op with
        | .call c => match c.callee with
          | .value f => match ev E st.t st.n f, vargs E st.t st.n c.args.toList with
            | some (.fn g fi cs), some as => some (v, h', [FnOK E w0 g (fi ++ as ++ cs) st.h v h'])
            | some (.yl l), some as => some (v, h', [YlOK E w0 l as st.h v h'])
            | _, _ => none
          | _ => none
        | _ => none
      | .cv v => match o.op with
        | .call c => match c.callee with
          | .value f => match ev E st.t st.n f, vargs E st.t st.n c.args.toList with
            | some (.fn g fi cs), some as => some (v, st.h, [CvOK E w0 g (fi ++ as ++ cs) (objsOf st.h (fi ++ as ++ cs)) v])
            | _, _ => none
          | _ => none
        | _ => none
      | .cn n es cap c2 e2 sp2 => match o.op with
        | .call c => match c.callee with
          | .value f => match ev E st.t st.n f, vargs E st.t st.n c.args.toList with
            | some (.fn g fi cs), some as => some (.sl st.h.n 0 n es cap, st.h.new (.cells c2 e2 sp2), [CnOK E w0 g (fi ++ as ++ cs) (objsOf st.h (fi ++ as ++ cs)) n es cap c2 e2 sp2])
            | _, _ => none
          | _ => none
        | _ => none
      | .st c' => match o.op with
        | .store ty x y => match ev E st.t st.n x, ev E st.t st.n y with
          | some (.ptr b off), some v => match st.h.at_ b, vcells v, E.P.info? ty with
            | some (.cells c e sp), some vs, some inf => bif Nat.ble E.R b then (bif Nat.beq vs.length inf.size then (bif noUnk vs then
                some (undefV, st.h.put b (.cells c' e sp), [off + vs.length ≤ c.length, c.take off ++ vs ++ c.drop (off + vs.length) = c']) else none) else none) else none
            | _, _, _ => none
          | _, _ => none
        | _ => none
      | .ap c' => match o.op with
        | .call c => match c.callee, c.args.toList, c.argTypes.toList with
          | .builtin .append, [s, x], [sT, xT] => match E.P.underlying sT, ev E st.t st.n s, ev E st.t st.n x with
            | some (.slice el), some (.sl b off len es none), some vx => match E.P.info? el, vzero E el with
              | some inf, some zs => match vsrc E st.h inf.size xT vx, st.h.at_ b with
                | some (news, m + 1), some (.cells cb e sp) =>
                  bif Nat.beq zs.length inf.size then (bif Nat.ble inf.bytes 1048576 then (bif Nat.blt 0 inf.size then (bif Nat.beq es inf.size then (bif Nat.beq off 0 then (bif Nat.ble E.R b then (bif Nat.beq e el then (bif noUnk news then
                    some (.sl st.h.n 0 (len + (m + 1)) es none, (st.h.put b .dead).new (.cells c' el true), [len + (m + 1) ≤ 1048576, len * es ≤ cb.length, cb.take (len * es) ++ news = c'])
                  else none) else none) else none) else none) else none) else none) else none) else none
                | _, _ => none
              | _, _ => none
            | _, _, _ => none
          | _, _, _ => none
        | _ => none
      | .al c' m => match o.op with
        | .call c => match c.callee, c.args.toList, c.argTypes.toList with
          | .builtin .append, [s, x], [sT, xT] => match E.P.underlying sT, ev E st.t st.n s, ev E st.t st.n x with
            | some (.slice el), some (.sl b 0 0 es (some 0)), some (.sl b2 o2 (k + 1) es2 cap2) => match E.P.info? el, vzero E el, E.P.underlying xT with
              | some inf, some zs, some d => match st.h.at_ b, st.h.at_ b2 with
                | some (.cells cb e sp), some (.cells c2 _ _) =>
                  bif Nat.beq zs.length inf.size then (bif Nat.ble inf.bytes 1048576 then (bif Nat.blt 0 inf.size then (bif Nat.beq es inf.size then (bif srcD d then
                    some (.sl st.h.n 0 (k + 1) es none, st.h.new (.cells c' el true), [k + 1 = m, m ≤ 1048576, o2 + m * inf.size ≤ c2.length, (c2.drop o2).take (m * inf.size) = c'])
                  else none) else none) else none) else none) else none
                | _, _ => none
              | _, _, _ => none
            | _, _, _ => none
          | _, _, _ => none
        | _ => none
      | _ => none

theorem cnd_ok {E : Env} {w0 : World} {call : Inv} {st : St} {o : Oper} {ov : Ov} {v : V} {h' : Hp} {C : List Prop} (hc : CallOK E w0 call) (hd : isDefer o.op = false) (e : cnd E w0 call st o ov = some (v, h', C)) (hC : AllP C) : OpOK E w0 st o v h' := by
  unfold cnd at e
  split at e
  · rename_i hp
    cases e
    exact opOK_of_pu (pcnd_ok hp hC)
  · split at e
    · rename_i hr
      cases e
      exact opOK_of_rd (rcnd_ok hr hC)
    · split at e
      · split at e
        · rename_i v0 h0 hv
          cases e
          have : _ = _ := hC
          subst this
          exact opOK_of_vop0 hc hd hv
        · cases e
      · cases e; exact hC
      · split at e
        · rename_i c ho
          split at e
          · rename_i f hcal
            split at e
            · rename_i g fi cs as hf has
              cases e
              exact opOK_of_fn ho hcal hf has hC
            · rename_i l as hf has
              cases e
              exact opOK_of_yl ho hcal hf has hC
            · cases e
          · cases e
        · cases e
      · split at e
        · rename_i c ho
          split at e
          · rename_i f hcal
            split at e
            · rename_i g fi cs as hf has
              cases e
              have hC : CvOK _ _ _ _ _ _ := hC
              exact opOK_of_fn ho hcal hf has (hC _ (objsOf_has _ _))
            · cases e
          · cases e
        · cases e
      · split at e
        · rename_i c ho
          split at e
          · rename_i f hcal
            split at e
            · rename_i g fi cs as hf has
              cases e
              have hC : CnOK _ _ _ _ _ _ _ _ _ _ _ := hC
              exact opOK_of_fn ho hcal hf has (hC _ (objsOf_has _ _))
            · cases e
          · cases e
        · cases e
      · split at e
        · rename_i ty x y ho
          split at e
          · rename_i b off u hx hy
            split at e
            · rename_i c el sp vs inf h1 h2 h3
              cases hb1 : Nat.ble E.R b with
              | false => rw [hb1] at e; cases e
              | true =>
              rw [hb1] at e
              cases hb2 : Nat.beq vs.length inf.size with
              | false => rw [hb2] at e; cases e
              | true =>
              rw [hb2] at e
              cases hb3 : noUnk vs with
              | false => rw [hb3] at e; cases e
              | true =>
              rw [hb3] at e
              cases e
              obtain ⟨q1, q2⟩ := hC
              have q2 : _ = _ := q2
              have hle := Nat.ble_eq_true_of_le q1
              refine opOK_of_eff hd fun σ w a s => vstore_sound s.wr s.tr s.gr ho ?_
              simp only [vstore, hx, hy, h1, h2, h3, hb1, hb2, hb3, hle, cond_true, q2]
            · cases e
          · cases e
        · cases e
      · split at e
        · rename_i c ho
          split at e
          · rename_i s x sT xT hcal hargs hts
            split at e
            · rename_i el b off len es vx hu hs hx
              split at e
              · rename_i inf zs hinf hzs
                split at e
                · rename_i news m cb e2 sp hsrc hat
                  cases hb1 : Nat.beq zs.length inf.size with
                  | false => rw [hb1] at e; cases e
                  | true =>
                  rw [hb1] at e
                  cases hb2 : Nat.ble inf.bytes 1048576 with
                  | false => rw [hb2] at e; cases e
                  | true =>
                  rw [hb2] at e
                  cases hb3 : Nat.blt 0 inf.size with
                  | false => rw [hb3] at e; cases e
                  | true =>
                  rw [hb3] at e
                  cases hb4 : Nat.beq es inf.size with
                  | false => rw [hb4] at e; cases e
                  | true =>
                  rw [hb4] at e
                  cases hb5 : Nat.beq off 0 with
                  | false => rw [hb5] at e; cases e
                  | true =>
                  rw [hb5] at e
                  cases hb6 : Nat.ble E.R b with
                  | false => rw [hb6] at e; cases e
                  | true =>
                  rw [hb6] at e
                  cases hb7 : Nat.beq e2 el with
                  | false => rw [hb7] at e; cases e
                  | true =>
                  rw [hb7] at e
                  cases hb8 : noUnk news with
                  | false => rw [hb8] at e; cases e
                  | true =>
                  rw [hb8] at e
                  cases e
                  obtain ⟨q1, q2, q3⟩ := hC
                  have q3 : _ = _ := q3
                  have hl1 := Nat.ble_eq_true_of_le q1
                  have hl2 := Nat.ble_eq_true_of_le q2
                  have hee := beq_iff.1 hb4
                  refine opOK_of_eff hd fun σ w a s => vappend_sound s.wr s.tr s.gr ho ?_
                  simp only [vappend, hcal, hargs, hts, hu, hs, hx, hinf, hzs, hb1, hb2, hb3, hb5, hb6, hb7, hb8, hsrc, hat, hl1, hl2, cond_true, q3, hb4]
                · cases e
              · cases e
            · cases e
          · cases e
        · cases e
      · split at e
        · rename_i c ho
          split at e
          · rename_i s x sT xT hcal hargs hts
            split at e
            · rename_i el b es b2 o2 k es2 cap2 hu hs hx
              split at e
              · rename_i inf zs d hinf hzs hd2
                split at e
                · rename_i cb e2 sp c2 e3 sp3 hat hat2
                  cases hb1 : Nat.beq zs.length inf.size with
                  | false => rw [hb1] at e; cases e
                  | true =>
                  rw [hb1] at e
                  cases hb2 : Nat.ble inf.bytes 1048576 with
                  | false => rw [hb2] at e; cases e
                  | true =>
                  rw [hb2] at e
                  cases hb3 : Nat.blt 0 inf.size with
                  | false => rw [hb3] at e; cases e
                  | true =>
                  rw [hb3] at e
                  cases hb4 : Nat.beq es inf.size with
                  | false => rw [hb4] at e; cases e
                  | true =>
                  rw [hb4] at e
                  cases hb5 : srcD d with
                  | false => rw [hb5] at e; cases e
                  | true =>
                  rw [hb5] at e
                  cases e
                  obtain ⟨q0, q1, q2, q3⟩ := hC
                  have q3 : _ = _ := q3
                  subst q0
                  subst q3
                  have hl1 := Nat.ble_eq_true_of_le q1
                  have hl2 := Nat.ble_eq_true_of_le q2
                  have hes := beq_iff.1 hb4
                  have hl3 : Nat.ble (0 + (k + 1)) 1048576 = true := by rw [Nat.zero_add]; exact hl1
                  have hl4 : Nat.ble (0 + (k + 1)) 0 = false := by
                    cases hh : Nat.ble (0 + (k + 1)) 0 with
                    | false => rfl
                    | true => have := Nat.le_of_ble_eq_true hh; omega
                  have hl5 : Nat.ble (0 + 0 * es) cb.length = true := Nat.ble_eq_true_of_le (by omega)
                  have hsrc : vsrc E st.h inf.size xT (.sl b2 o2 (k + 1) es2 cap2) = some ((c2.drop o2).take ((k + 1) * inf.size), k + 1) := by
                    simp only [vsrc, hd2, hb5, cond_true, hat2, hl2]
                  refine opOK_of_eff hd fun σ w a s => vappend_sound s.wr s.tr s.gr ho ?_
                  simp only [vappend, hcal, hargs, hts, hu, hs, hx, hinf, hzs, hb1, hb2, hb3, hb4, hsrc, hat, hl3, hl4, hl5, cond_true, cond_false]
                  simp
                · cases e
              · cases e
            · cases e
          · cases e
        · cases e
      · cases e

open Classical in
/-- The oracle of a script: what it says, where it is so. -/
def orc (E : Env) (w0 : World) (call : Inv) (S : Script) : Inv := fun tg args h =>
  match tg with
  | .op st o => match S.find (okey o) with
    | some ov => match cnd E w0 call st o ov with
      | some (v, h', C) => if AllP C then some (v, h') else none
      | none => none
    | none => none
  | .pu t n o => match S.find (okey o) with
    | some ov => match pcnd E t n o ov with
      | some (v, C) => if AllP C then some (v, ⟨0, .nil⟩) else none
      | none => none
    | none => none
  | .rd t n hp o => match S.find (okey o) with
    | some ov => match rcnd E t n hp o ov with
      | some (v, C) => if AllP C then some (v, ⟨0, .nil⟩) else none
      | none => none
    | none => none
  | .fn f => call (.fn f) args h
  | .yl l => call (.yl l) args h

theorem orc_ok {E : Env} {w0 : World} {call : Inv} (hc : CallOK E w0 call) (S : Script) : CallOK E w0 (orc E w0 call S) := by
  refine ⟨fun f args h v h' e => hc.fn f args h v h' e, fun l args h v h' e => hc.yl l args h v h' e, fun st o args h v h' e hd => ?_, fun t n o args h v h' e => ?_, fun t n hp o args h v h' e => ?_⟩
  · simp only [orc] at e
    split at e
    · split at e
      · rename_i u h1 C hcn
        split at e
        · rename_i hC
          cases e
          exact cnd_ok hc hd hcn hC
        · cases e
      · cases e
    · cases e
  · simp only [orc] at e
    split at e
    · split at e
      · rename_i u C hcn
        split at e
        · rename_i hC
          cases e
          exact pcnd_ok hcn hC
        · cases e
      · cases e
    · cases e
  · simp only [orc] at e
    split at e
    · split at e
      · rename_i u C hcn
        split at e
        · rename_i hC
          cases e
          exact rcnd_ok hcn hC
        · cases e
      · cases e
    · cases e

end
end Go.Proofs.YtmlfcaaecofnjaaGreatDoor.SM
