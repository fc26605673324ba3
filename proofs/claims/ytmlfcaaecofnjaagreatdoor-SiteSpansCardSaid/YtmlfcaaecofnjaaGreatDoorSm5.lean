/- The evaluator's slicing, lengths, and composite values. -/
import Derived.Test.YtmlfcaaecofnjaaGreatDoorSm4
set_option linter.unusedVariables false
set_option linter.unusedSimpArgs false
namespace Go.Proofs.YtmlfcaaecofnjaaGreatDoor.SM
open Go Go.RowKit
noncomputable section

section
variable {E : Env} {σ : Ren} {t : Tr V} {n : Nat} {a : Act}

/-! #### Slicing -/
/-- A bound: none, or a number. -/
def vbound (E : Env) (t : Tr V) (n : Nat) (d : Nat) : Option Operand → Option Nat
  | none => some d
  | some x => match ev E t n x with
    | some v => asN v
    | none => none

theorem vbound_rel (ht : TR σ t n a.tmps) (hG : GR E σ) {d : Nat} {x : Option Operand} {k : Nat} (h : vbound E t n d x = some k) :
    (x.map a.eval = none ∧ k = d) ∨ ∃ q, x.map a.eval = some (.int q k) := by
  cases x with
  | none => cases h; exact .inl ⟨rfl, rfl⟩
  | some x =>
    simp only [vbound] at h
    split at h
    · rename_i v hv
      obtain ⟨q, hq⟩ := asN_inv (ev_rel ht hG hv) h
      exact .inr ⟨q, by simp [hq]⟩
    · cases h

theorem run_bounds {P : Program} {isS : Bool} {len cap l h : Nat} {lo hi : Option Value} (hlo : (lo = none ∧ l = 0) ∨ ∃ q, lo = some (.int q l)) (hhi : (hi = none ∧ h = len) ∨ ∃ q, hi = some (.int q h))
    (h1 : h ≤ cap) (h2 : l ≤ h) (w : World) : (Instr.sliceBounds isS len cap lo hi none).run P w = .ok (l, h, cap) w := by
  rcases hhi with ⟨rfl, rfl⟩ | ⟨q, rfl⟩
  · rcases hlo with ⟨rfl, rfl⟩ | ⟨q', rfl⟩
    · simp [Instr.sliceBounds]
    · simp [Instr.sliceBounds, Instr.sliceBound, asIntOf, h2]
  · rcases hlo with ⟨rfl, rfl⟩ | ⟨q', rfl⟩
    · simp [Instr.sliceBounds, Instr.sliceBound, asIntOf, h1]
    · simp [Instr.sliceBounds, Instr.sliceBound, asIntOf, h1, h2]

def vslice (E : Env) (t : Tr V) (n : Nat) (xt : TypeId) (x : Operand) (lo hi mx : Option Operand) : Option V :=
  match mx with
  | some _ => none
  | none =>
    match ev E t n x, E.P.underlying xt with
    | some (.sl b o len es cap), some (.slice el) =>
      match vbound E t n 0 lo, vbound E t n len hi, E.P.info? el with
      | some l, some h, some inf =>
        bif Nat.ble l h then
          (bif Nat.beq inf.size es then
            match cap with
            | some c => bif Nat.ble h c then some (.sl b (bif Nat.beq c l then o else o + l * inf.size) (h - l) es (some (c - l))) else none
            | none => bif Nat.ble h len then some (.sl b (o + l * inf.size) (h - l) es none) else none
          else none)
        else none
      | _, _, _ => none
    | _, _ => none

theorem beq_iff {x y : Nat} : Nat.beq x y = true ↔ x = y := ⟨Nat.eq_of_beq_eq_true, fun e => by subst e; simp⟩
theorem beq_bool (x y : Nat) : Nat.beq x y = decide (x = y) := by
  by_cases h : x = y
  · rw [beq_iff.2 h]; simp [h]
  · cases hb : Nat.beq x y with
    | true => exact absurd (beq_iff.1 hb) h
    | false => simp [h]

theorem vslice_sound (ht : TR σ t n a.tmps) (hG : GR E σ) {o : Oper} {xt : TypeId} {x : Operand} {lo hi mx : Option Operand} (ho : o.op = .slice xt x lo hi mx) {v : V} (h : vslice E t n xt x lo hi mx = some v) :
    ∃ v', Ans E.P a.eval o v' ∧ RT σ v v' := by
  unfold vslice at h
  split at h
  · cases h
  · rename_i hmx
    split at h
    · rename_i b off len es cap el hx hu
      have hr := ev_rel ht hG hx
      split at h
      · rename_i l hh inf hl hhi hinf
        have hbl := vbound_rel ht hG hl
        have hbh := vbound_rel ht hG hhi
        cases h1 : Nat.ble l hh with
        | false => rw [h1] at h; cases h
        | true =>
          rw [h1] at h
          have hle := Nat.le_of_ble_eq_true h1
          simp only [cond_true] at h
          cases hes : Nat.beq inf.size es with
          | false => rw [hes] at h; cases h
          | true =>
            rw [hes] at h
            have hsz := beq_iff.1 hes
            simp only [cond_true] at h
            split at h
            · rename_i c
              cases h2 : Nat.ble hh c with
              | false => rw [h2] at h; cases h
              | true =>
                rw [h2] at h
                have hle2 := Nat.le_of_ble_eq_true h2
                cases h
                rcases hr.sl_inv with ⟨b', c', e1, e2, e3, e4, e5⟩ | ⟨_, e, _⟩
                · have hc : c' = c := e2 c rfl
                  subst hc
                  refine ⟨.slice (some (if c' = l then ⟨b', off, none⟩ else ⟨b', off + l * inf.size, none⟩)) (hh - l) (c' - l), fun w => ?_, ?_⟩
                  · simp [execOp, ho, Instr.sliceAt, run_und hu, Instr.slice, e5, run_bounds hbl hbh hle2 hle, run_siz hinf, add_mk]
                    split <;> simp
                  · rw [beq_bool]
                    by_cases hcl : c' = l
                    · simp only [hcl, decide_true, cond_true, if_true, Nat.sub_self]
                      exact .val (.cell (.leaf (.sl e1 (fun k hk => by cases hk; rfl) (by omega) (by simp; rw [← hcl] at *; exact Nat.le_trans (Nat.le_add_right _ _) e4))))
                    · simp only [hcl, decide_false, cond_false, if_false]
                      refine .val (.cell (.leaf (.sl e1 (fun k hk => by cases hk; rfl) (by omega) ?_)))
                      rw [hsz]
                      have : (c' - l) * es + l * es = c' * es := by rw [← Nat.add_mul, Nat.sub_add_cancel (by omega)]
                      omega
                · cases e
            · cases h2 : Nat.ble hh len with
              | false => rw [h2] at h; cases h
              | true =>
                rw [h2] at h
                have hle2 := Nat.le_of_ble_eq_true h2
                cases h
                rcases hr.sl_inv with ⟨b', c', e1, e2, e3, e4, e5⟩ | ⟨e0, _, a', e5⟩
                · have hh2 : hh ≤ c' := by omega
                  refine ⟨.slice (some (if c' = l then ⟨b', off, none⟩ else ⟨b', off + l * inf.size, none⟩)) (hh - l) (c' - l), fun w => ?_, ?_⟩
                  · simp [execOp, ho, Instr.sliceAt, run_und hu, Instr.slice, e5, run_bounds hbl hbh hh2 hle, run_siz hinf, add_mk]
                    split <;> simp
                  · by_cases hcl : c' = l
                    · have hz : hh - l = 0 := by omega
                      rw [hz, hcl]
                      simp only [if_true, Nat.sub_self]
                      exact .val (.cell (.leaf .slE))
                    · simp only [hcl, if_false]
                      refine .val (.cell (.leaf (.sl e1 (fun k hk => by cases hk) (by omega) ?_)))
                      rw [hsz]
                      have : (c' - l) * es + l * es = c' * es := by rw [← Nat.add_mul, Nat.sub_add_cancel (by omega)]
                      omega
                · subst e0
                  have h0 : hh = 0 := by omega
                  subst h0
                  have l0 : l = 0 := by omega
                  subst l0
                  refine ⟨.slice (some a') 0 0, fun w => ?_, .val (.cell (.leaf ?_))⟩
                  · simp [execOp, ho, Instr.sliceAt, run_und hu, Instr.slice, e5, run_bounds hbl hbh (Nat.le_refl _) (Nat.le_refl _), run_siz hinf]
                  · exact .slE
      · cases h
    · cases h

/-! #### Lengths -/
def vlen (E : Env) (t : Tr V) (n : Nat) (c : Call) : Option V :=
  match c.callee, c.args.toList, c.argTypes[0]? with
  | .builtin .len, [x], some ty => match ev E t n x, E.P.underlying ty with
    | some (.sl _ _ len _ _), some (.slice _) => some (.sc (.int .i64 len))
    | _, _ => none
  | .builtin .cap, [x], some ty => match ev E t n x, E.P.underlying ty with
    | some (.sl _ _ _ _ (some c)), some (.slice _) => some (.sc (.int .i64 c))
    | _, _ => none
  | _, _, _ => none

theorem args_list {xs : Array Operand} {l : List Operand} (h : xs.toList = l) (ρ : Operand → Value) : xs.map ρ = ⟨l.map ρ⟩ := by
  apply Array.ext'; simp [h]

theorem vlen_sound (ht : TR σ t n a.tmps) (hG : GR E σ) {o : Oper} {c : Call} (ho : o.op = .call c) {v : V} (h : vlen E t n c = some v) : ∃ v', Ans E.P a.eval o v' ∧ RT σ v v' := by
  unfold vlen at h
  split at h
  · rename_i x ty hc ha ht0
    split at h
    · rename_i b off len es cap el hx hu
      cases h
      rcases (ev_rel ht hG hx).sl_inv with ⟨b', c', _, _, _, _, e5⟩ | ⟨e0, _, a', e5⟩
      · refine ⟨.int .i64 len, fun w => ?_, .val (.cell (.leaf (.sc rfl)))⟩
        simp [execOp, ho, resolve, hc, args_list ha, invoke, builtin, Builtin.len_, ht0, run_und hu, e5, goInt]
      · subst e0
        refine ⟨.int .i64 0, fun w => ?_, .val (.cell (.leaf (.sc rfl)))⟩
        simp [execOp, ho, resolve, hc, args_list ha, invoke, builtin, Builtin.len_, ht0, run_und hu, e5, goInt]
    · cases h
  · rename_i x ty hc ha ht0
    split at h
    · rename_i b off len es cap el hx hu
      cases h
      rcases (ev_rel ht hG hx).sl_inv with ⟨b', c', _, e2, _, _, e5⟩ | ⟨e0, e1, a', e5⟩
      · have := e2 _ rfl
        subst this
        refine ⟨.int .i64 c', fun w => ?_, .val (.cell (.leaf (.sc rfl)))⟩
        simp [execOp, ho, resolve, hc, args_list ha, invoke, builtin, Builtin.cap_, ht0, run_und hu, e5, goInt]
      · cases e1
    · cases h
  · cases h

/-! #### Composite values -/
def putAt {α : Type} (cs : List α) : Nat → List α → List α
  | _, [] => cs
  | off, v :: r => putAt (cs.set off v) (off + 1) r
theorem putAt_length {α : Type} : ∀ (vs : List α) (cs : List α) (off : Nat), (putAt cs off vs).length = cs.length := by
  intro vs
  induction vs with
  | nil => intro cs off; rfl
  | cons v r ih => intro cs off; simp [putAt, ih]
theorem putAt_rel {R : V → Value → Prop} : ∀ {vs : List V} {vs' : List Value}, F2 R vs vs' → ∀ {cs : List V} {cs' : List Value} (off : Nat), F2 R cs cs' → F2 R (putAt cs off vs) (putAt cs' off vs') := by
  intro vs vs' h
  induction h with
  | nil => intro cs cs' off hc; exact hc
  | cons h1 _ ih => intro cs cs' off hc; exact ih (off + 1) (hc.set off h1)
theorem foldl_putAt (off : Nat) : ∀ (vs : List Value) (k : Nat) (cs : Array Value),
    ((vs.zipIdx k).foldl (fun (cs : Array Value) (p : Value × Nat) => cs.setIfInBounds (off + p.2) p.1) cs).toList = putAt cs.toList (off + k) vs := by
  intro vs
  induction vs with
  | nil => intro k cs; rfl
  | cons v r ih =>
    intro k cs
    simp only [List.zipIdx_cons, List.foldl_cons, putAt]
    rw [ih (k + 1) _, Array.toList_setIfInBounds]
    rfl

/-- The parts of a composite value, laid into its cells. -/
def vfill (place : Nat → Option (Nat × Nat)) (cells : List V) : List (Nat × V) → Option (List V)
  | [] => some cells
  | (i, v) :: r => match place i, vcells v with
    | some (off, size), some cs => bif Nat.beq cs.length size then (bif Nat.ble (off + cs.length) cells.length then vfill place (putAt cells off cs) r else none) else none
    | _, _ => none

def PR (σ : Ren) (x : Nat × V) (y : Nat × Value) : Prop := x.1 = y.1 ∧ RT σ x.2 y.2

theorem vfill_rel {place : Nat → Option (Nat × Nat)} : ∀ {ps : List (Nat × V)} {ps' : List (Nat × Value)}, F2 (PR σ) ps ps' → ∀ {cells us : List V} {cells' : Array Value}, F2 (RC σ) cells cells'.toList →
    vfill place cells ps = some us → ∃ us' : Array Value, Instr.fill place cells' ps' = some us' ∧ F2 (RC σ) us us'.toList := by
  intro ps ps' h
  induction h with
  | nil => intro cells us cells' hc e; cases e; exact ⟨cells', rfl, hc⟩
  | @cons x y ps ps' h1 _ ih =>
    intro cells us cells' hc e
    obtain ⟨i, v⟩ := x
    obtain ⟨i', v'⟩ := y
    obtain ⟨hi, hv⟩ := h1
    simp only at hi hv
    subst hi
    simp only [vfill] at e
    split at e
    · rename_i off size cs hp hcs
      have hr := vcells_rel hv hcs
      have hl := hr.length
      cases h2 : Nat.beq cs.length size with
      | false => rw [h2] at e; cases e
      | true =>
        rw [h2] at e
        simp only [cond_true] at e
        have h2 := beq_iff.1 h2
        cases h3 : Nat.ble (off + cs.length) cells.length with
        | false => rw [h3] at e; cases e
        | true =>
          rw [h3] at e
          simp only [cond_true] at e
          have h3 := Nat.le_of_ble_eq_true h3
          have hcl := hc.length
          have hs1 : v'.cells.size = cs.length := by rw [hl]; simp
          have hs2 : cells'.size = cells.length := by rw [hcl]; simp
          have hne : (v'.cells.size ≠ size || off + v'.cells.size > cells'.size) = false := by
            rw [hs1, hs2]
            simp [h2]
            omega
          have hfold : (v'.cells.zipIdx.foldl (fun (cs : Array Value) (p : Value × Nat) => cs.setIfInBounds (off + p.2) p.1) cells').toList = putAt cells'.toList off v'.cells.toList := by
            rw [← Array.foldl_toList, Array.toList_zipIdx, foldl_putAt off _ 0 _]
            rfl
          obtain ⟨us', e1, e2⟩ := ih (cells' := v'.cells.zipIdx.foldl (fun (cs : Array Value) (p : Value × Nat) => cs.setIfInBounds (off + p.2) p.1) cells')
            (by rw [hfold]; exact putAt_rel hr off hc) e
          refine ⟨us', ?_, e2⟩
          simp only [Instr.fill, hp]
          rw [if_neg (by rw [hne]; simp)]
          exact e1
    · cases e

def vparts (E : Env) (t : Tr V) (n : Nat) : List (Nat × Operand) → Option (List (Nat × V))
  | [] => some []
  | (i, x) :: r => match ev E t n x, vparts E t n r with
    | some v, some vs => some ((i, v) :: vs)
    | _, _ => none
theorem vparts_rel (ht : TR σ t n a.tmps) (hG : GR E σ) : ∀ {ps : List (Nat × Operand)} {us : List (Nat × V)}, vparts E t n ps = some us → F2 (PR σ) us (ps.map fun p => (p.1, a.eval p.2)) := by
  intro ps
  induction ps with
  | nil => intro us h; cases h; exact .nil
  | cons p r ih =>
    intro us h
    obtain ⟨i, x⟩ := p
    simp only [vparts] at h
    split at h
    · rename_i v vs hv hvs
      cases h
      exact .cons ⟨rfl, ev_rel ht hG hv⟩ (ih hvs)
    · cases h

/-- Where each field of a struct lies. -/
def vplaces (E : Env) : List Field → Option (List (Nat × Nat))
  | [] => some []
  | f :: r => match E.P.info? f.type, vplaces E r with
    | some i, some l => some ((f.offset, i.size) :: l)
    | _, _ => none
theorem vplaces_run : ∀ {fs : List Field} {l : List (Nat × Nat)}, vplaces E fs = some l → ∀ w, (fs.mapM (fun (f : Field) => (do pure (f.offset, ← sizeOf f.type) : Sem (Nat × Nat)))).run E.P w = .ok l w := by
  intro fs
  induction fs with
  | nil => intro l h w; cases h; simp
  | cons f r ih =>
    intro l h w
    simp only [vplaces] at h
    split at h
    · rename_i i l' hi hl
      cases h
      simp only [List.mapM_cons, Sem.run_bind, run_siz hi, Result.andThen_ok, Sem.run_pure, ih hl]
    · cases h

def vzero (E : Env) (t : TypeId) : Option (List V) :=
  match E.P.info? t with
  | some i => match i.zero with
    | some z => match ofValue z with
      | some v => vcells v
      | none => none
    | none => none
  | none => none
theorem vzero_rel {t : TypeId} {zs : List V} (σ : Ren) (h : vzero E t = some zs) : ∃ z : Value, (∀ w, (zeroValue t).run E.P w = .ok z w) ∧ F2 (RC σ) zs z.cells.toList := by
  unfold vzero at h
  split at h
  · rename_i i hi
    split at h
    · rename_i z hz
      split at h
      · rename_i v hv
        exact ⟨z, fun w => run_zero hi hz w, vcells_rel (.val (ofValue_rel σ hv)) h⟩
      · cases h
    · cases h
  · cases h

def vbuild (E : Env) (t : Tr V) (n : Nat) (ty : TypeId) (parts : Array (Nat × Operand)) : Option V :=
  match vzero E ty, vparts E t n parts.toList, E.P.underlying ty with
  | some zs, some ps, some (.struct fs) => match vplaces E fs.toList with
    | some l => match vfill (fun i => l[i]?) zs ps with
      | some us => some (.agg us)
      | none => none
    | none => none
  | some zs, some ps, some (.array _ el) => match E.P.info? el with
    | some inf => match vfill (fun i => some (i * inf.size, inf.size)) zs ps with
      | some us => some (.agg us)
      | none => none
    | none => none
  | _, _, _ => none
theorem vbuild_sound (ht : TR σ t n a.tmps) (hG : GR E σ) {o : Oper} {ty : TypeId} {parts : Array (Nat × Operand)} (ho : o.op = .build ty parts) {v : V} (h : vbuild E t n ty parts = some v) : ∃ v', Ans E.P a.eval o v' ∧ RT σ v v' := by
  unfold vbuild at h
  have hmap : (parts.map fun (p : Nat × Operand) => (p.1, a.eval p.2)).toList = parts.toList.map fun p => (p.1, a.eval p.2) := by simp
  split at h
  · rename_i zs ps fs hz hp hu
    obtain ⟨z, hzr, hzc⟩ := vzero_rel σ hz
    split at h
    · rename_i l hl
      split at h
      · rename_i us hus
        cases h
        obtain ⟨us', e1, e2⟩ := vfill_rel (vparts_rel ht hG hp) hzc hus
        refine ⟨.agg us', fun w => ?_, .val (.agg e2)⟩
        have hm : (fs.mapM (fun (f : Field) => (do pure (f.offset, ← sizeOf f.type) : Sem (Nat × Nat)))).run E.P w = .ok ⟨l⟩ w := by
          rw [Array.mapM_eq_mapM_toList]
          simp only [Sem.run_map]
          rw [vplaces_run hl w]
          rfl
        have e1' : Instr.fill (fun i => (⟨l⟩ : Array (Nat × Nat))[i]?) z.cells (parts.toList.map fun p => (p.1, a.eval p.2)) = some us' := by
          rw [← e1]
          have hf : (fun (i : Nat) => (⟨l⟩ : Array (Nat × Nat))[i]?) = fun (i : Nat) => l[i]? := by funext i; simp
          rw [hf]
        simp only [execOp, ho, Instr.build, Sem.run_bind, hzr, Result.andThen_ok, run_und hu, hm, hmap, e1']
        rfl
      · cases h
    · cases h
  · rename_i zs ps k el hz hp hu
    obtain ⟨z, hzr, hzc⟩ := vzero_rel σ hz
    split at h
    · rename_i inf hinf
      split at h
      · rename_i us hus
        cases h
        obtain ⟨us', e1, e2⟩ := vfill_rel (vparts_rel ht hG hp) hzc hus
        refine ⟨.agg us', fun w => ?_, .val (.agg e2)⟩
        simp [execOp, ho, Instr.build, hzr, run_und hu, run_siz hinf, e1]
      · cases h
    · cases h
  · cases h
end
end
end Go.Proofs.YtmlfcaaecofnjaaGreatDoor.SM
