/- The evaluator's copy, maps, and ranges over strings. -/
import Derived.Test.YtmlfcaaecofnjaaGreatDoorSm7
set_option linter.unusedVariables false
set_option linter.unusedSimpArgs false
namespace Go.Proofs.YtmlfcaaecofnjaaGreatDoor.SM
open Go Go.RowKit
noncomputable section

section
variable {E : Env} {w0 : World} {σ : Ren} {t : Tr V} {n : Nat} {a : Act} {h h' : Hp} {w : World}

/-! #### copy -/
def vcopy (E : Env) (t : Tr V) (n : Nat) (h : Hp) (c : Call) : Option (V × Hp) :=
  match c.callee, c.args.toList, c.argTypes.toList with
  | .builtin .copy, [d, s], dT :: _ => match E.P.underlying dT, ev E t n d, ev E t n s with
    | some (.slice el), some (.sl b o dl es _), some (.sl b2 o2 m es2 _) => match E.P.info? el with
      | some inf =>
        match Nat.min m dl with
        | 0 => some (.sc (.int .i64 0), h)
        | k => match h.at_ b, h.at_ b2 with
          | some (.cells cb e sp), some (.cells c2 _ _) =>
            bif Nat.ble E.R b then (bif Nat.ble (o2 + k * inf.size) c2.length then (bif Nat.ble (o + k * inf.size) cb.length then (bif noUnk ((c2.drop o2).take (k * inf.size)) then
              some (.sc (.int .i64 k), h.put b (.cells (cb.take o ++ (c2.drop o2).take (k * inf.size) ++ cb.drop (o + ((c2.drop o2).take (k * inf.size)).length)) e sp)) else none) else none) else none) else none
          | _, _ => none
      | none => none
    | _, _, _ => none
  | _, _, _ => none

theorem run_builtin_copy {o : Oper} {c : Call} (ho : o.op = .call c) (hc : c.callee = .builtin .copy) {l : List Operand} (ha : c.args.toList = l) {ts : List TypeId} (hts : c.argTypes.toList = ts) :
    (execOp a.eval o).run E.P w = ((Builtin.copy_ ⟨ts⟩ o.type ⟨l.map a.eval⟩).run E.P w).andThen fun v w => .ok (.value v) w := by
  have hT : c.argTypes = ⟨ts⟩ := by apply Array.ext'; simp [hts]
  simp [execOp, ho, resolve, hc, args_list ha, invoke, builtin, hT]

theorem vcopy_sound (r : WR E.R w0 σ h w) (ht : TR σ t n a.tmps) (hG : GR E σ) {o : Oper} {c : Call} (ho : o.op = .call c) {v : V} (he : vcopy E t n h c = some (v, h')) : Eff E w0 a.eval o σ w v h' := by
  unfold vcopy at he
  split at he
  · rename_i d s dT rest hc ha hts
    have hrun := run_builtin_copy (E := E) (a := a) (w := w) ho hc ha hts
    simp only [List.map_cons, List.map_nil] at hrun
    split at he
    · rename_i el b off dl es cap b2 o2 m es2 cap2 hu hd hs
      have hrd := ev_rel ht hG hd
      have hrs := ev_rel ht hG hs
      split at he
      · rename_i inf hinf
        split at he
        · rename_i hk
          cases he
          refine ⟨.int .i64 0, w, σ, .inl ?_, Ren.le_refl _, r, .val (.cell (.leaf (.sc rfl)))⟩
          rw [hrun]
          rcases hrd.sl_inv with ⟨b', c', _, _, _, _, e5⟩ | ⟨e0, _, a', e5⟩ <;> rcases hrs.sl_inv with ⟨b2', c2', _, _, _, _, f5⟩ | ⟨f0, _, a2', f5⟩
          · simp [e5, f5, Builtin.copy_, run_und hu, Builtin.lenOf, hk, Builtin.firstCells, run_siz hinf, loadCells, loadCellsFrom, storeCells, goInt]
          · subst f0
            simp [e5, f5, Builtin.copy_, run_und hu, Builtin.lenOf, Builtin.firstCells, run_siz hinf, loadCells, loadCellsFrom, storeCells, goInt]
          · subst e0
            simp [e5, f5, Builtin.copy_, run_und hu, Builtin.lenOf, Builtin.firstCells, run_siz hinf, loadCells, loadCellsFrom, storeCells, goInt]
          · subst e0
            simp [e5, f5, Builtin.copy_, run_und hu, Builtin.lenOf, Builtin.firstCells, run_siz hinf, loadCells, loadCellsFrom, storeCells, goInt]
        · rename_i hk0
          split at he
          · rename_i cb e sp c2 e2 sp2 hat hat2
            cases hb1 : Nat.ble E.R b with
            | false => rw [hb1] at he; cases he
            | true =>
            rw [hb1] at he
            simp only [cond_true] at he
            cases hb2 : Nat.ble (o2 + Nat.min m dl * inf.size) c2.length with
            | false => rw [hb2] at he; cases he
            | true =>
            rw [hb2] at he
            simp only [cond_true] at he
            cases hb3 : Nat.ble (off + Nat.min m dl * inf.size) cb.length with
            | false => rw [hb3] at he; cases he
            | true =>
            rw [hb3] at he
            simp only [cond_true] at he
            cases hb9 : noUnk ((c2.drop o2).take (Nat.min m dl * inf.size)) with
            | false => rw [hb9] at he; cases he
            | true =>
            rw [hb9] at he
            cases he
            have hk0' : Nat.min m dl ≠ 0 := fun e => hk0 e
            rcases hrd.sl_inv with ⟨b', c', g1, _, _, _, e5⟩ | ⟨e0, _, a', e5⟩
            · rcases hrs.sl_inv with ⟨b2', c2', f1, _, _, _, f5⟩ | ⟨f0, _, a2', f5⟩
              · obtain ⟨vs, q1, q2, q3⟩ := r.row f1 hat2 (Nat.le_of_ble_eq_true hb2)
                have hlen : ((c2.drop o2).take (Nat.min m dl * inf.size)).length = Nat.min m dl * inf.size := by rw [q1.length, q2]
                obtain ⟨w', hst, r'⟩ := r.splice g1 hat (Nat.le_of_ble_eq_true hb1) q1 hb9 (by rw [hlen]; exact Nat.le_of_ble_eq_true hb3)
                refine ⟨.int .i64 (Nat.min m dl), w', σ, .inl ?_, Ren.le_refl _, r', .val (.cell (.leaf (.sc rfl)))⟩
                have hf := run_firstCells_some (P := E.P) w inf.size (Nat.min m dl) ⟨b2', o2, none⟩ m c2' vs q2 fun j v hv => by rw [add_mk]; exact q3 j v hv
                rw [hrun]
                simp [e5, f5, Builtin.copy_, run_und hu, Builtin.lenOf, run_siz hinf, hf, hst, goInt]
              · subst f0; exact absurd (by simp) hk0'
            · subst e0; exact absurd (by simp) hk0'
          · cases he
      · cases he
    · cases he
  · cases he

/-! #### Maps -/
def vmakeMap (E : Env) (t : Tr V) (n : Nat) (h : Hp) (ty : TypeId) (x : Option Operand) : Option (V × Hp) :=
  match x with
  | none => some (.mp h.n, h.new (.map [] 0))
  | some x => match E.P.underlying ty, ev E t n x with
    | some (.map _ _), some v => match asN v with
      | some _ => some (.mp h.n, h.new (.map [] 0))
      | none => none
    | _, _ => none
theorem vmakeMap_sound (r : WR E.R w0 σ h w) (ht : TR σ t n a.tmps) (hG : GR E σ) {o : Oper} {ty : TypeId} {x : Option Operand} (ho : o.op = .makeMap ty x) {v : V} (he : vmakeMap E t n h ty x = some (v, h')) : Eff E w0 a.eval o σ w v h' := by
  have key : ∀ (hrun : (execOp a.eval o).run E.P w = .ok (.value (.map (some w.heap.size))) (w.alloc (.map #[] 0))), Eff E w0 a.eval o σ w (.mp h.n) (h.new (.map [] 0)) := by
    intro hrun
    obtain ⟨r', hle⟩ := r.new 0 (o := .map [] 0) (o' := .map #[] 0) (.map .nil) (fun _ _ _ e => by cases e)
    exact ⟨_, _, _, .inl hrun, hle, r', .val (.cell (.leaf (.mp (Ren.upd_same _ _ _ _))))⟩
  unfold vmakeMap at he
  split at he
  · cases he
    apply key
    simp [execOp, ho, Instr.makeMap, World.alloc_eq]
  · split at he
    · rename_i k el vx hu hx
      split at he
      · rename_i q hq
        cases he
        obtain ⟨kk, hkk⟩ := asN_inv (ev_rel ht hG hx) hq
        apply key
        simp [execOp, ho, Instr.makeMap, run_und hu, hkk, asInt, asIntOf, World.alloc_eq]
      · cases he
    · cases he

/-- Kinds of keys that are compared at sight. -/
def keyD : TypeDesc → Bool
  | .int _ => true
  | .string => true
  | .bool => true
  | _ => false
theorem keyD_check {d : TypeDesc} (hd : keyD d = true) {P : Program} {ty : TypeId} (hu : P.underlying ty = some d) (e : Bool) (v : Value) : (Instr.checkKey e 10000 ty v).run P w = .ok () w := by
  cases d <;> first | (cases hd; done) | skip
  all_goals
    unfold Instr.checkKey
    simp only [Sem.run_bind, run_und hu, Result.andThen_ok]
    cases v <;> rfl

def vfindNow (d : TypeDesc) (k : Value) : List (Value × V × Nat) → Nat → Option (Option (Nat × V))
  | [], _ => some none
  | e :: es, i => match Instr.sameNow d k e.1 with
    | some true => some (some (i, e.2.1))
    | some false => vfindNow d k es (i + 1)
    | none => none
theorem vfindNow_rel {d : TypeDesc} {k : Value} : ∀ {es : List (Value × V × Nat)} {es' : List MapEntry}, F2 (ER σ) es es' → ∀ {i : Nat} {q : Option (Nat × V)}, vfindNow d k es i = some q →
    match q with
    | none => Instr.findNow d k es' i = some none
    | some (j, v) => ∃ v' e, Instr.findNow d k es' i = some (some (j, v')) ∧ RV σ v v' ∧ i ≤ j ∧ es'[j - i]? = some e ∧ Instr.sameNow d k e.key = some true := by
  intro es es' h
  induction h with
  | nil => intro i q e; simp only [vfindNow, Option.some.injEq] at e; subst e; rfl
  | @cons x y xs ys h1 _ ih =>
    intro i q e
    simp only [vfindNow] at e
    have hk := h1.key
    split at e
    · rename_i hs
      cases e
      refine ⟨y.val, y, ?_, h1.val, Nat.le_refl _, by simp, by rw [hk]; exact hs⟩
      simp only [Instr.findNow, hk, hs]
    · rename_i hs
      have := ih e
      cases q with
      | none => simp only [Instr.findNow, hk, hs]; exact this
      | some p =>
        obtain ⟨j, v⟩ := p
        obtain ⟨v', e', g1, g2, g3, g4, g5⟩ := this
        refine ⟨v', e', ?_, g2, by omega, ?_, g5⟩
        · simp only [Instr.findNow, hk, hs]; exact g1
        · rw [show j - i = (j - (i + 1)) + 1 by omega]
          simpa using g4
    · cases e

def vzeroV (E : Env) (ty : TypeId) : Option V :=
  match E.P.info? ty with
  | some i => match i.zero with
    | some z => ofValue z
    | none => none
  | none => none
theorem vzeroV_rel {ty : TypeId} {v : V} (σ : Ren) (h : vzeroV E ty = some v) : ∃ z : Value, (∀ w, (zeroValue ty).run E.P w = .ok z w) ∧ RV σ v z := by
  unfold vzeroV at h
  split at h
  · rename_i i hi
    split at h
    · rename_i z hz
      exact ⟨z, fun w => run_zero hi hz w, ofValue_rel σ h⟩
    · cases h
  · cases h

def vlookup (E : Env) (t : Tr V) (n : Nat) (h : Hp) (xt : TypeId) (x ix : Operand) (ok : Bool) : Option V :=
  match E.P.underlying xt, ev E t n x, plainOf E t n ix with
  | some (.map kt el), some (.mp m), some k => match h.at_ m, E.P.underlying kt with
    | some (.map es _), some d => bif keyD d then
        (match vfindNow d k es 0 with
        | some (some (_, v)) => bif ok then (match v with | .tup _ => none | v => some (.tup [v, .sc (.bool true)])) else some v
        | some none => (match vzeroV E el with
          | some z => bif ok then some (.tup [z, .sc (.bool false)]) else some z
          | none => none)
        | none => none) else none
    | _, _ => none
  | _, _, _ => none
theorem plainOf_rel (ht : TR σ t n a.tmps) (hG : GR E σ) {x : Operand} {u : Value} (h : plainOf E t n x = some u) : a.eval x = u := by
  unfold plainOf at h
  split at h
  · rename_i v hv; exact toValue_eq (ev_rel ht hG hv) h
  · cases h
theorem getObj_map {P : Program} {m : Nat} {es : Array MapEntry} {clk : Nat} (hm : w.heap[m]? = some (.map es clk)) : (getObj m).run P w = .ok (.map es clk) w := by simp [getObj, Sem.run, hm]
theorem setObj_map {P : Program} {m : Nat} {es : Array MapEntry} {clk : Nat} (o : Obj) (hm : w.heap[m]? = some (.map es clk)) : (setObj m o).run P w = .ok () (w.putObj m o) := by simp [setObj, Sem.run, hm, World.putObj]

theorem WR.map_ (r : WR E.R w0 σ h w) {m m' : Nat} {es : List (Value × V × Nat)} {clk : Nat} (hm : σ m = some m') (ha : h.at_ m = some (.map es clk)) : ∃ es' : Array MapEntry, w.heap[m']? = some (.map es' clk) ∧ F2 (ER σ) es es'.toList := by
  obtain ⟨o', h1, h2⟩ := r.obj m m' _ hm ha rfl
  cases h2 with
  | map hf => exact ⟨_, h1, hf⟩

theorem vlookup_sound (r : WR E.R w0 σ h w) (ht : TR σ t n a.tmps) (hG : GR E σ) {o : Oper} {xt : TypeId} {x ix : Operand} {ok : Bool} (ho : o.op = .lookup xt x ix ok) {v : V} (e : vlookup E t n h xt x ix ok = some v) :
    ∃ v', (execOp a.eval o).run E.P w = .ok (.value v') w ∧ RT σ v v' := by
  unfold vlookup at e
  split at e
  · rename_i kt el m k hu hx hk
    obtain ⟨m', h1, h2⟩ := (ev_rel ht hG hx).mp_inv
    have hk' := plainOf_rel ht hG hk
    split at e
    · rename_i es clk d ha hd
      cases hkd : keyD d with
      | false => rw [hkd] at e; cases e
      | true =>
      rw [hkd] at e
      simp only [cond_true] at e
      obtain ⟨es', g1, g2⟩ := r.map_ h1 ha
      have hck := fun b v => keyD_check (w := w) hkd hd b v
      split at e
      · rename_i j u hf
        obtain ⟨v', _, q1, q2, _⟩ := vfindNow_rel g2 hf
        cases ok with
        | true =>
          simp only [cond_true] at e
          have hnt : (match u with | .tup _ => false | _ => true) = true := by cases u <;> first | rfl | cases e
          have e' : v = .tup [u, .sc (.bool true)] := by cases u <;> first | (cases e; rfl) | cases e
          subst e'
          refine ⟨.tuple #[v', .bool true], ?_, .tup (.cons q2 (.cons (.cell (.leaf (.sc rfl))) .nil))⟩
          simp [execOp, ho, Instr.lookup, run_und hu, h2, getObj_map g1, hk', hck, Instr.findKey, run_und hd, q1]
        | false =>
          simp only [cond_false] at e
          cases e
          refine ⟨v', ?_, .val q2⟩
          simp [execOp, ho, Instr.lookup, run_und hu, h2, getObj_map g1, hk', hck, Instr.findKey, run_und hd, q1]
      · rename_i hf
        have q1 := vfindNow_rel g2 hf
        simp only at q1
        split at e
        · rename_i z hz
          obtain ⟨z', z1, z2⟩ := vzeroV_rel σ hz
          cases ok with
          | true =>
            cases e
            refine ⟨.tuple #[z', .bool false], ?_, .tup (.cons z2 (.cons (.cell (.leaf (.sc rfl))) .nil))⟩
            simp [execOp, ho, Instr.lookup, run_und hu, h2, getObj_map g1, hk', hck, Instr.findKey, run_und hd, q1, z1]
          | false =>
            cases e
            refine ⟨z', ?_, .val z2⟩
            simp [execOp, ho, Instr.lookup, run_und hu, h2, getObj_map g1, hk', hck, Instr.findKey, run_und hd, q1, z1]
        · cases e
      · cases e
    · cases e
  · cases e

end
end
end Go.Proofs.YtmlfcaaecofnjaaGreatDoor.SM
