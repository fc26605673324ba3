/- The evaluator's pure operations: what each answers, and that the machine answers so in every world. -/
import Derived.Test.YtmlfcaaecofnjaaGreatDoorAm3
set_option linter.unusedVariables false
set_option linter.unusedSimpArgs false
namespace Go.Proofs.YtmlfcaaecofnjaaGreatDoor.AM
open Go Go.RowKit
noncomputable section

section
variable {E : Env} {σ : Ren} {t : Tr V} {n : Nat} {a : Act}

/-- The operation answers v' in every world. -/
def Ans (P : Program) (ρ : Operand → Value) (o : Oper) (v' : Value) : Prop := ∀ w, (execOp ρ o).run P w = .ok (.value v') w

/-! #### Every operand a plain value -/
def plainOf (E : Env) (t : Tr V) (n : Nat) (x : Operand) : Option Value :=
  match ev E t n x with
  | some v => toValue v
  | none => none
def rho (E : Env) (t : Tr V) (n : Nat) (x : Operand) : Value := (plainOf E t n x).getD undef
def allPlain (E : Env) (t : Tr V) (n : Nat) : List Operand → Bool
  | [] => true
  | x :: r => bif (plainOf E t n x).isSome then allPlain E t n r else false

theorem plain_eq (ht : TR σ t n a.tmps) (hG : GR E σ) {x : Operand} (h : (plainOf E t n x).isSome = true) : a.eval x = rho E t n x := by
  unfold rho plainOf at *
  cases hv : ev E t n x with
  | none => rw [hv] at h; cases h
  | some v =>
    simp only [hv] at h ⊢
    cases hu : toValue v with
    | none => rw [hu] at h; cases h
    | some u => simpa [hu] using toValue_eq (ev_rel ht hG hv) hu

theorem allPlain_mem {xs : List Operand} (h : allPlain E t n xs = true) : ∀ x ∈ xs, (plainOf E t n x).isSome = true := by
  induction xs with
  | nil => intro x hx; cases hx
  | cons y r ih =>
    intro x hx
    simp only [allPlain] at h
    cases hy : (plainOf E t n y).isSome with
    | false => rw [hy] at h; cases h
    | true =>
      rw [hy] at h
      rcases List.mem_cons.1 hx with rfl | hx
      · exact hy
      · exact ih h x hx

def notSelect : Op → Bool
  | .select _ _ => false
  | _ => true

def vgen (E : Env) (t : Tr V) (n : Nat) (o : Oper) : Option V :=
  bif allPlain E t n o.op.operands.toList then
    bif notSelect o.op then
      match pureRun E.P (execOp (rho E t n) o) with
      | some (.value u) => ofValue u
      | _ => none
    else none
  else none

theorem vgen_sound (ht : TR σ t n a.tmps) (hG : GR E σ) {o : Oper} {v : V} (h : vgen E t n o = some v) : ∃ v', Ans E.P a.eval o v' ∧ RT σ v v' := by
  unfold vgen at h
  cases hp : allPlain E t n o.op.operands.toList with
  | false => rw [hp] at h; cases h
  | true =>
    rw [hp] at h
    cases hs : notSelect o.op with
    | false => rw [hs] at h; cases h
    | true =>
      rw [hs] at h
      simp only [cond_true] at h
      have he : execOp a.eval o = execOp (rho E t n) o := execOp_congr o (fun cs b e => by rw [e] at hs; cases hs) fun x hx => plain_eq ht hG (allPlain_mem hp x (by simpa using hx))
      cases hr : pureRun E.P (execOp (rho E t n) o) with
      | none => rw [hr] at h; cases h
      | some nx =>
        rw [hr] at h
        cases nx <;> simp only at h <;> try (cases h)
        rename_i u
        exact ⟨u, fun w => by rw [he]; exact pureRun_run w hr, .val (ofValue_rel σ h)⟩

/-! #### The operations by themselves -/
def vmove (E : Env) (t : Tr V) (n : Nat) (x : Operand) : Option V := ev E t n x

def vpick (E : Env) (t : Tr V) (n : Nat) (c x y : Operand) : Option V :=
  match ev E t n c with
  | some (.sc (.bool true)) => ev E t n x
  | some (.sc (.bool false)) => ev E t n y
  | _ => none

theorem vpick_sound (ht : TR σ t n a.tmps) (hG : GR E σ) {o : Oper} {c x y : Operand} (ho : o.op = .pick c x y) {v : V} (h : vpick E t n c x y = some v) : ∃ v', Ans E.P a.eval o v' ∧ RT σ v v' := by
  unfold vpick at h
  cases hc : ev E t n c with
  | none => rw [hc] at h; cases h
  | some vc =>
    rw [hc] at h
    have hr := ev_rel ht hG hc
    split at h
    · rename_i e; cases e
      refine ⟨a.eval x, fun w => ?_, ev_rel ht hG h⟩
      simp [execOp, ho, hr.sc_inv, asBool]
    · rename_i e; cases e
      refine ⟨a.eval y, fun w => ?_, ev_rel ht hG h⟩
      simp [execOp, ho, hr.sc_inv, asBool]
    · cases h

def vextract (E : Env) (t : Tr V) (n : Nat) (x : Operand) (i : Nat) : Option V :=
  match ev E t n x with
  | some (.tup vs) => vs[i]?
  | _ => none
theorem vextract_sound (ht : TR σ t n a.tmps) (hG : GR E σ) {o : Oper} {x : Operand} {i : Nat} (ho : o.op = .extract x i) {v : V} (h : vextract E t n x i = some v) : ∃ v', Ans E.P a.eval o v' ∧ RT σ v v' := by
  unfold vextract at h
  cases hc : ev E t n x with
  | none => rw [hc] at h; cases h
  | some vc =>
    rw [hc] at h
    have hr := ev_rel ht hG hc
    split at h
    · rename_i vs e; cases e
      obtain ⟨vs', h1, h2⟩ := hr.tup_inv
      obtain ⟨v', e1, e2⟩ := h1.at_ i v h
      have hx : (⟨vs'⟩ : Array Value)[i]? = some v' := by simpa using e1
      exact ⟨v', fun w => by simp [execOp, ho, h2, Instr.extract, hx], .val e2⟩
    · cases h

def vfield (E : Env) (t : Tr V) (n : Nat) (xt : TypeId) (x : Operand) (f : Nat) : Option V :=
  match ev E t n x with
  | some (.agg cs) => match E.P.underlying xt with
    | some (.struct fs) => match fs[f]? with
      | some fl => vpart E fl.type cs fl.offset
      | none => none
    | _ => none
  | _ => none
theorem vfield_sound (ht : TR σ t n a.tmps) (hG : GR E σ) {o : Oper} {xt : TypeId} {x : Operand} {f : Nat} (ho : o.op = .field xt x f) {v : V} (h : vfield E t n xt x f = some v) : ∃ v', Ans E.P a.eval o v' ∧ RT σ v v' := by
  unfold vfield at h
  cases hc : ev E t n x with
  | none => rw [hc] at h; cases h
  | some vc =>
    rw [hc] at h
    have hr := ev_rel ht hG hc
    split at h
    · rename_i cs e; cases e
      obtain ⟨cs', h1, h2⟩ := hr.agg_inv
      split at h
      · rename_i fs hu
        split at h
        · rename_i fl hf
          obtain ⟨v', e1, e2⟩ := vpart_rel h1 h
          exact ⟨v', fun w => by simp [execOp, ho, Instr.field, run_und hu, hf, h2, asAgg, e1], .val e2⟩
        · cases h
      · cases h
    · cases h

def vindex (E : Env) (t : Tr V) (n : Nat) (xt : TypeId) (x ix : Operand) : Option V :=
  match ev E t n x with
  | some (.agg cs) => match E.P.underlying xt with
    | some (.array len el) => match ev E t n ix with
      | some vi => match asN vi with
        | some i => bif Nat.blt i len then (match E.P.info? el with
          | some inf => vpart E el cs (i * inf.size)
          | none => none) else none
        | none => none
      | none => none
    | _ => none
  | _ => none
theorem vindex_sound (ht : TR σ t n a.tmps) (hG : GR E σ) {o : Oper} {xt : TypeId} {x ix : Operand} (ho : o.op = .index xt x ix) {v : V} (h : vindex E t n xt x ix = some v) : ∃ v', Ans E.P a.eval o v' ∧ RT σ v v' := by
  unfold vindex at h
  cases hc : ev E t n x with
  | none => rw [hc] at h; cases h
  | some vc =>
    rw [hc] at h
    have hr := ev_rel ht hG hc
    split at h
    · rename_i cs e; cases e
      obtain ⟨cs', h1, h2⟩ := hr.agg_inv
      split at h
      · rename_i len el hu
        split at h
        · rename_i vi hi
          split at h
          · rename_i i hn
            obtain ⟨k, hk⟩ := asN_inv (ev_rel ht hG hi) hn
            cases hb : Nat.blt i len with
            | false => rw [hb] at h; cases h
            | true =>
              rw [hb] at h
              simp only [cond_true] at h
              have hlt := blt_iff.1 hb
              split at h
              · rename_i inf hinf
                obtain ⟨v', e1, e2⟩ := vpart_rel h1 h
                refine ⟨v', fun w => ?_, .val e2⟩
                simp [execOp, ho, Instr.index, hk, asIntOf, run_und hu, h2, run_siz hinf, hlt, e1]
              · cases h
          · cases h
        · cases h
      · cases h
    · cases h

def vleaves (E : Env) (t : Tr V) (n : Nat) : List Operand → Option (List V)
  | [] => some []
  | x :: r => match ev E t n x with
    | some v => bif isLeaf v then (match vleaves E t n r with | some vs => some (v :: vs) | none => none) else none
    | none => none
theorem vleaves_rel (ht : TR σ t n a.tmps) (hG : GR E σ) : ∀ {xs : List Operand} {vs : List V}, vleaves E t n xs = some vs → F2 (RL σ) vs (xs.map a.eval) := by
  intro xs
  induction xs with
  | nil => intro vs h; cases h; exact .nil
  | cons x r ih =>
    intro vs h
    simp only [vleaves] at h
    cases hx : ev E t n x with
    | none => rw [hx] at h; cases h
    | some v =>
      rw [hx] at h
      simp only at h
      cases hl : isLeaf v with
      | false => rw [hl] at h; cases h
      | true =>
        rw [hl] at h
        simp only [cond_true] at h
        cases hr : vleaves E t n r with
        | none => rw [hr] at h; cases h
        | some us => rw [hr] at h; cases h; exact .cons ((ev_rel ht hG hx).leaf hl) (ih hr)

def vmakeFunc (E : Env) (t : Tr V) (n : Nat) (fn : Fn) (first captured : Array Operand) : Option V :=
  match fn with
  | .func f => match vleaves E t n first.toList, vleaves E t n captured.toList with
    | some fi, some cs => some (.fn f fi cs)
    | _, _ => none
  | _ => none
theorem vmakeFunc_sound (ht : TR σ t n a.tmps) (hG : GR E σ) {o : Oper} {fn : Fn} {first captured : Array Operand} (ho : o.op = .makeFunc fn first captured) {v : V} (h : vmakeFunc E t n fn first captured = some v) :
    ∃ v', Ans E.P a.eval o v' ∧ RT σ v v' := by
  unfold vmakeFunc at h
  split at h
  · rename_i f
    split at h
    · rename_i fi cs h1 h2
      cases h
      refine ⟨.func (.func f) ⟨first.toList.map a.eval⟩ ⟨captured.toList.map a.eval⟩, fun w => ?_, .val (.cell (.fn (vleaves_rel ht hG h1) (vleaves_rel ht hG h2)))⟩
      have e : ∀ xs : Array Operand, xs.map a.eval = ⟨xs.toList.map a.eval⟩ := fun xs => by apply Array.ext'; simp
      simp [execOp, ho, Instr.makeFunc, e]
    · cases h
  · cases h

def vnilCheck (E : Env) (t : Tr V) (n : Nat) (x : Operand) : Option V :=
  match ev E t n x with
  | some (.ptr b o) => some (.ptr b o)
  | _ => none
theorem vnilCheck_sound (ht : TR σ t n a.tmps) (hG : GR E σ) {o : Oper} {x : Operand} (ho : o.op = .nilCheck x) {v : V} (h : vnilCheck E t n x = some v) : ∃ v', Ans E.P a.eval o v' ∧ RT σ v v' := by
  unfold vnilCheck at h
  cases hc : ev E t n x with
  | none => rw [hc] at h; cases h
  | some vc =>
    rw [hc] at h
    have hr := ev_rel ht hG hc
    split at h
    · rename_i b off e; cases e; cases h
      obtain ⟨b', h1, h2⟩ := hr.ptr_inv
      exact ⟨_, fun w => by simp [execOp, ho, h2], .val (.cell (.leaf (.ptr h1)))⟩
    · cases h

def vfieldAddr (E : Env) (t : Tr V) (n : Nat) (s : TypeId) (x : Operand) (f : Nat) : Option V :=
  match ev E t n x with
  | some (.ptr b o) => match E.P.underlying s with
    | some (.struct fs) => match fs[f]? with
      | some fl => match E.P.info? fl.type with
        | some inf => bif Nat.beq inf.size 0 then none else some (.ptr b (o + fl.offset))
        | none => none
      | none => none
    | _ => none
  | _ => none
theorem vfieldAddr_sound (ht : TR σ t n a.tmps) (hG : GR E σ) {o : Oper} {s : TypeId} {x : Operand} {f : Nat} (ho : o.op = .fieldAddr s x f) {v : V} (h : vfieldAddr E t n s x f = some v) : ∃ v', Ans E.P a.eval o v' ∧ RT σ v v' := by
  unfold vfieldAddr at h
  cases hc : ev E t n x with
  | none => rw [hc] at h; cases h
  | some vc =>
    rw [hc] at h
    have hr := ev_rel ht hG hc
    split at h
    · rename_i b off e; cases e
      obtain ⟨b', h1, h2⟩ := hr.ptr_inv
      split at h
      · rename_i fs hu
        split at h
        · rename_i fl hf
          split at h
          · rename_i inf hinf
            cases hb : Nat.beq inf.size 0 with
            | true => rw [hb] at h; cases h
            | false =>
              rw [hb] at h
              cases h
              have hne : inf.size ≠ 0 := fun e => by rw [e] at hb; cases hb
              refine ⟨.pointer (some ⟨b', off + fl.offset, none⟩), fun w => ?_, .val (.cell (.leaf (.ptr h1)))⟩
              simp [execOp, ho, Instr.fieldAt, run_und hu, hf, h2, Instr.sureAddr, fieldPlace, run_siz hinf, hne, add_mk]
          · cases h
        · cases h
      · cases h
    · cases h

def vindexAddr (E : Env) (t : Tr V) (n : Nat) (xt : TypeId) (x ix : Operand) : Option V :=
  match ev E t n ix with
  | some vi => match asN vi with
    | some i => match E.P.underlying xt, ev E t n x with
      | some (.array len el), some (.ptr b o) => bif Nat.blt i len then (match E.P.info? el with
        | some inf => some (.ptr b (o + i * inf.size))
        | none => none) else none
      | some (.slice el), some (.sl b o len _ _) => bif Nat.blt i len then (match E.P.info? el with
        | some inf => some (.ptr b (o + i * inf.size))
        | none => none) else none
      | _, _ => none
    | none => none
  | none => none
theorem vindexAddr_sound (ht : TR σ t n a.tmps) (hG : GR E σ) {o : Oper} {xt : TypeId} {x ix : Operand} (ho : o.op = .indexAddr xt x ix) {v : V} (h : vindexAddr E t n xt x ix = some v) : ∃ v', Ans E.P a.eval o v' ∧ RT σ v v' := by
  unfold vindexAddr at h
  split at h
  · rename_i vi hi
    split at h
    · rename_i i hn
      obtain ⟨k, hk⟩ := asN_inv (ev_rel ht hG hi) hn
      split at h
      · rename_i len el b off hu hx
        obtain ⟨b', h1, h2⟩ := (ev_rel ht hG hx).ptr_inv
        cases hb : Nat.blt i len with
        | false => rw [hb] at h; cases h
        | true =>
          rw [hb] at h
          have hlt := blt_iff.1 hb
          simp only [cond_true] at h
          split at h
          · rename_i inf hinf
            cases h
            refine ⟨.pointer (some ⟨b', off + i * inf.size, none⟩), fun w => ?_, .val (.cell (.leaf (.ptr h1)))⟩
            simp [execOp, ho, Instr.indexAt, hk, asIntOf, run_und hu, h2, Instr.sureAddr, run_siz hinf, hlt, add_mk]
          · cases h
      · rename_i el b off len es c hu hx
        cases hb : Nat.blt i len with
        | false => rw [hb] at h; cases h
        | true =>
          rw [hb] at h
          have hlt := blt_iff.1 hb
          simp only [cond_true] at h
          rcases (ev_rel ht hG hx).sl_inv with ⟨b', c', h1, _, hle, _, h2⟩ | ⟨h0, _⟩
          · split at h
            · rename_i inf hinf
              cases h
              refine ⟨.pointer (some ⟨b', off + i * inf.size, none⟩), fun w => ?_, .val (.cell (.leaf (.ptr h1)))⟩
              simp [execOp, ho, Instr.indexAt, hk, asIntOf, run_und hu, h2, run_siz hinf, hlt, add_mk]
            · cases h
          · omega
      · cases h
    · cases h
  · cases h

def vs2ap (E : Env) (t : Tr V) (n : Nat) (arr : TypeId) (x : Operand) : Option V :=
  match E.P.underlying arr, ev E t n x with
  | some (.array len _), some (.sl b o k _ _) => bif Nat.ble len k then (bif Nat.beq len 0 then none else some (.ptr b o)) else none
  | _, _ => none
theorem vs2ap_sound (ht : TR σ t n a.tmps) (hG : GR E σ) {o : Oper} {arr : TypeId} {x : Operand} (ho : o.op = .sliceToArrayPointer arr x) {v : V} (h : vs2ap E t n arr x = some v) : ∃ v', Ans E.P a.eval o v' ∧ RT σ v v' := by
  unfold vs2ap at h
  split at h
  · rename_i len el b off k es c hu hx
    cases hb : Nat.ble len k with
    | false => rw [hb] at h; cases h
    | true =>
      rw [hb] at h
      have hle := Nat.le_of_ble_eq_true hb
      simp only [cond_true] at h
      cases h0 : Nat.beq len 0 with
      | true => rw [h0] at h; cases h
      | false =>
        rw [h0] at h
        cases h
        have hne : len ≠ 0 := fun e => by rw [e] at h0; cases h0
        rcases (ev_rel ht hG hx).sl_inv with ⟨b', c', h1, _, _, _, h2⟩ | ⟨hz, _⟩
        · refine ⟨.pointer (some ⟨b', off, none⟩), fun w => ?_, .val (.cell (.leaf (.ptr h1)))⟩
          have : ¬ k < len := by omega
          simp [execOp, ho, Instr.arrayAt, run_und hu, h2, this]
        · omega
  · cases h
end

end
end Go.Proofs.YtmlfcaaecofnjaaGreatDoor.AM
