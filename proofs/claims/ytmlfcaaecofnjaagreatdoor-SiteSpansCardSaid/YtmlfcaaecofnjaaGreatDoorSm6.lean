/- The evaluator's operations on memory. -/
import Derived.Test.YtmlfcaaecofnjaaGreatDoorSm5
import Derived.RowKit
set_option linter.unusedVariables false
set_option linter.unusedSimpArgs false
namespace Go.Proofs.YtmlfcaaecofnjaaGreatDoor.SM
open Go Go.RowKit
noncomputable section

section
variable {E : Env} {w0 : World} {σ : Ren} {t : Tr V} {n : Nat} {a : Act} {h h' : Hp} {w : World}

/-- The operation's effect: its answer and the new world are as the evaluator's. -/
def Eff (E : Env) (w0 : World) (ρ : Operand → Value) (o : Oper) (σ : Ren) (w : World) (v : V) (h' : Hp) : Prop :=
  ∃ v' w' σ', ((execOp ρ o).run E.P w = .ok (.value v') w' ∨ ((execOp ρ o).run E.P w = .ok .skip w' ∧ v' = undef)) ∧ Ren.le σ σ' ∧ WR E.R w0 σ' h' w' ∧ RT σ' v v'

theorem setRow_putObj {g : Nat} {cs cur : Array Value} {e : TypeId} {f : Nat × Nat} (hg : w.heap[g]? = some (.cells cur e f)) : w.setRow g cs = w.putObj g (.cells cs e f) := by
  unfold World.setRow World.putObj
  congr 1
  apply Array.ext'
  obtain ⟨hl, hc⟩ := Array.getElem?_eq_some_iff.1 hg
  rw [Array.toList_modify, Array.toList_setIfInBounds]
  apply List.ext_getElem?
  intro i
  rw [List.getElem?_modify, List.getElem?_set]
  by_cases hi : g = i
  · subst hi
    simp [hl, hc]
  · simp [hi]

/-! #### Reading -/
def vload (E : Env) (t : Tr V) (n : Nat) (h : Hp) (ty : TypeId) (x : Operand) : Option V :=
  match ev E t n x with
  | some (.ptr b o) => match h.at_ b, E.P.underlying ty with
    | some (.cells c _ _), some d => bif isAggD d then (match E.P.info? ty with
        | some inf => bif Nat.ble (o + inf.size) c.length then some (.agg ((c.drop o).take inf.size)) else none
        | none => none) else c[o]?
    | _, _ => none
  | _ => none
theorem vload_sound (r : WR E.R w0 σ h w) (ht : TR σ t n a.tmps) (hG : GR E σ) {o : Oper} {ty : TypeId} {x : Operand} (ho : o.op = .load ty x) {v : V} (e : vload E t n h ty x = some v) :
    ∃ v', (execOp a.eval o).run E.P w = .ok (.value v') w ∧ RT σ v v' := by
  unfold vload at e
  split at e
  · rename_i b off hx
    obtain ⟨b', h1, h2⟩ := (ev_rel ht hG hx).ptr_inv
    split at e
    · rename_i c el sp d ha hu
      cases hd : isAggD d with
      | true =>
        rw [hd] at e
        simp only [cond_true] at e
        split at e
        · rename_i inf hinf
          cases hb : Nat.ble (off + inf.size) c.length with
          | false => rw [hb] at e; cases e
          | true =>
            rw [hb] at e
            cases e
            obtain ⟨vs, e1, e2, e3⟩ := r.row h1 ha (Nat.le_of_ble_eq_true hb)
            refine ⟨.agg ⟨vs⟩, ?_, .val (.agg e1)⟩
            have hl : (loadCells ⟨b', off, none⟩ inf.size).run E.P w = .ok vs.toArray w := by
              rw [← e2]; exact run_loadCells_list w _ vs fun j v hv => by rw [add_mk]; exact e3 j v hv
            simp only [execOp, ho, Instr.loadAt, h2, Instr.sureAddr, Sem.run_bind, Sem.run_pure, Result.andThen_ok, loadVar, run_isAggD hu, hd, if_true, run_siz hinf, hl]
        · cases e
      | false =>
        rw [hd] at e
        simp only [cond_false] at e
        obtain ⟨c', f, g1, _, _, _, g4⟩ := r.cells h1 ha
        obtain ⟨v', e1, e2⟩ := g4 off v e
        refine ⟨v', ?_, .val (.cell e2)⟩
        have hc : w.cell? ⟨b', off, none⟩ = some v' := by rw [cell_of_row w b' off c' el f g1, e1]
        simp only [execOp, ho, Instr.loadAt, h2, Instr.sureAddr, Sem.run_bind, Sem.run_pure, Result.andThen_ok, loadVar, run_isAggD hu, hd, Bool.false_eq_true, if_false, run_load, hc]
    · cases e
  · cases e

/-! #### New blocks -/
theorem cellsOR (σ : Ren) {cs : List V} {cs' : Array Value} (e : TypeId) (hc : F2 (RC σ) cs cs'.toList) : OR σ (.cells cs e false) (.cells cs' e (0, 0)) :=
  .cells (by rw [hc.length]; simp) (fun _ => by rw [hc.length]; simp) fun i v hv => by
    obtain ⟨v', e1, e2⟩ := hc.at_ i v hv
    exact ⟨v', by simpa using e1, e2⟩

theorem WR.newCells (r : WR E.R w0 σ h w) {cs : List V} {cs' : Array Value} (e : TypeId) (hc : F2 (RC σ) cs cs'.toList) :
    WR E.R w0 (σ.upd h.n w.heap.size cs.length) (h.new (.cells cs e false)) (w.alloc (.cells cs' e)) ∧ Ren.le σ (σ.upd h.n w.heap.size cs.length) := by
  have hle : Ren.le σ (σ.upd h.n w.heap.size cs.length) := Ren.le_upd _ _ (r.fresh _ (Nat.le_refl _))
  exact r.new cs.length (cellsOR _ e (hc.mono fun _ _ x => x.mono hle)) fun c _ _ e => by cases e; exact ⟨by rw [hc.length]; simp, .inl rfl⟩

def valloc (E : Env) (h : Hp) (e : TypeId) : Option (V × Hp) :=
  match vzero E e with
  | some zs => some (.ptr h.n 0, h.new (.cells zs e false))
  | none => none
theorem valloc_sound (r : WR E.R w0 σ h w) {o : Oper} {e : TypeId} (ho : o.op = .alloc e) {v : V} (he : valloc E h e = some (v, h')) : Eff E w0 a.eval o σ w v h' := by
  unfold valloc at he
  split at he
  · rename_i zs hz
    cases he
    obtain ⟨z, hzr, hzc⟩ := vzero_rel σ hz
    obtain ⟨r', hle⟩ := r.newCells e hzc
    refine ⟨_, _, _, .inl ?_, hle, r', .val (.cell (.leaf (.ptr (Ren.upd_same _ _ _ _))))⟩
    simp only [execOp, ho, Instr.alloc, Sem.run_bind, hzr, Result.andThen_ok, newVar, newRow, run_newObj, Sem.run_pure, World.alloc_eq]
  · cases he

def vbox (E : Env) (t : Tr V) (n : Nat) (h : Hp) (e : TypeId) (x : Operand) : Option (V × Hp) :=
  match ev E t n x with
  | some v => match vcells v with
    | some cs => some (.ptr h.n 0, h.new (.cells cs e false))
    | none => none
  | none => none
theorem vbox_sound (r : WR E.R w0 σ h w) (ht : TR σ t n a.tmps) (hG : GR E σ) {o : Oper} {e : TypeId} {x : Operand} (ho : o.op = .box e x) {v : V} (he : vbox E t n h e x = some (v, h')) : Eff E w0 a.eval o σ w v h' := by
  unfold vbox at he
  split at he
  · rename_i u hu
    split at he
    · rename_i cs hcs
      cases he
      obtain ⟨r', hle⟩ := r.newCells e (vcells_rel (ev_rel ht hG hu) hcs)
      refine ⟨_, _, _, .inl ?_, hle, r', .val (.cell (.leaf (.ptr (Ren.upd_same _ _ _ _))))⟩
      simp only [execOp, ho, Instr.box, Sem.run_bind, newVar, newRow, run_newObj, Result.andThen_ok, Sem.run_pure, World.alloc_eq]
    · cases he
  · cases he

/-! #### Writing -/
theorem F2.splice {R : V → Value → Prop} {c vs : List V} {c' vs' : List Value} (o : Nat) (hc : F2 R c c') (hv : F2 R vs vs') : F2 R (c.take o ++ vs ++ c.drop (o + vs.length)) (c'.take o ++ vs' ++ c'.drop (o + vs'.length)) := by
  rw [← hv.length]
  exact ((hc.take o).append hv).append (hc.drop _)

theorem run_storeCells_calm {P : Program} (g o : Nat) (t : TypeId) (f : Nat × Nat) : ∀ (vs : List Value) (i : Nat) (cur : Array Value) (w : World), w.heap[g]? = some (.cells cur t f) → Calm f cur.size → o + i + vs.length ≤ cur.size → (∀ v ∈ vs, v.oneCell' = true) →
    (storeCells ⟨g, o, none⟩ vs i).run P w = .ok () (w.setRow g (cur.toList.take (o + i) ++ vs ++ cur.toList.drop (o + i + vs.length)).toArray)
  | [], i, cur, w, hg, _, _, _ => by
    simp only [storeCells, List.append_nil, List.length_nil, Nat.add_zero, List.take_append_drop, Array.toArray_toList]
    rw [setRow_self w g cur t f hg]
    rfl
  | v :: rest, i, cur, w, hg, hcalm, hl, h1 => by
    have hi : o + i < cur.size := by simp at hl; omega
    have hadd : (⟨g, o, none⟩ : Addr).add i = ⟨g, o + i, none⟩ := by unfold Addr.add; split <;> simp_all
    have hcell : w.cell? ⟨g, o + i, none⟩ = some cur[o + i] := by simp [World.cell?, hg, hi]
    have hfro : w.frozen? ⟨g, o + i, none⟩ = false := by
      simp only [World.frozen?, hg]
      rcases hcalm with h | h
      · subst h; simp
      · subst h; simp; omega
    have hst : (store ((⟨g, o, none⟩ : Addr).add i) v).run P w = .ok () (w.setRow g (cur.setIfInBounds (o + i) v)) := by
      rw [hadd, run_store P w _ v _ (h1 v (by simp)), hcell]
      simp [hfro, setCell_eq_setRow w g (o + i) cur t f v hg]
    have ih := run_storeCells_calm (P := P) g o t f rest (i + 1) (cur.setIfInBounds (o + i) v) (w.setRow g (cur.setIfInBounds (o + i) v)) (setRow_heap w g cur _ t _ hg) (by simpa using hcalm) (by simp at hl ⊢; omega) (fun x hx => h1 x (by simp [hx]))
    simp only [storeCells, Sem.run_bind, hst, Result.andThen_ok, ih, setRow_setRow]
    congr 3
    have e := list_seg_step cur.toList (o + i) v rest (by simp at hl ⊢; omega)
    simpa [Array.toList_setIfInBounds, Nat.add_assoc] using e

/-- A row's cells are written, o cells from its beginning. -/
theorem WR.splice (r : WR E.R w0 σ h w) {b b' o : Nat} {c vs : List V} {e : TypeId} {sp : Bool} {vs' : List Value} (hb : σ b = some b') (ha : h.at_ b = some (.cells c e sp)) (hg : E.R ≤ b) (hv : F2 (RC σ) vs vs') (hk : noUnk vs = true) (hl : o + vs.length ≤ c.length) :
    ∃ w', (storeCells ⟨b', o, none⟩ vs').run E.P w = .ok () w' ∧ WR E.R w0 σ (h.put b (.cells (c.take o ++ vs ++ c.drop (o + vs.length)) e sp)) w' := by
  obtain ⟨c', f, g1, gf, g2, g3, g4⟩ := r.cells hb ha
  have hvl := hv.length
  have h1 : ∀ v ∈ vs', v.oneCell' = true := by
    intro v hm
    obtain ⟨i, hi⟩ := List.getElem?_of_mem hm
    have hlt : i < vs.length := by rw [hvl]; exact (List.getElem?_eq_some_iff.1 hi).1
    obtain ⟨u, hu1, hu2⟩ := hv.at_ i _ (List.getElem?_eq_getElem hlt)
    rw [hi] at hu1; cases hu1
    exact hu2.oneCell (noUnk_mem hk _ (List.getElem_mem hlt))
  have hst := run_storeCells_calm (P := E.P) b' o e f vs' 0 c' w g1 (gf hg) (by rw [← hvl]; simp; omega) h1
  refine ⟨_, hst, ?_⟩
  rw [setRow_putObj g1]
  refine r.put hb ha rfl hg ?_ ?_
  · refine .cells ?_ ?_ ?_
    · simp; omega
    · intro hs; have := g3 hs; simp; omega
    · intro i v hi
      rw [← Array.getElem?_toList]
      simp only [List.toList_toArray, Nat.add_zero]
      -- by where i lies
      by_cases hA : i < o
      · rw [List.append_assoc, List.getElem?_append_left (by simp; omega), List.getElem?_take_of_lt hA] at hi
        obtain ⟨v', e1, e2⟩ := g4 i v hi
        refine ⟨v', ?_, e2⟩
        rw [List.append_assoc, List.getElem?_append_left (by simp; omega), List.getElem?_take_of_lt hA]
        simpa using e1
      · by_cases hB : i < o + vs.length
        · rw [List.append_assoc, List.getElem?_append_right (by simp; omega), List.getElem?_append_left (by simp; omega)] at hi
          have hto : (c.take o).length = o := by simp; omega
          rw [hto] at hi
          obtain ⟨v', e1, e2⟩ := hv.at_ _ v hi
          refine ⟨v', ?_, e2⟩
          have hto' : (c'.toList.take o).length = o := by simp; omega
          rw [List.append_assoc, List.getElem?_append_right (by rw [hto']; omega), hto', List.getElem?_append_left (by rw [← hvl]; omega)]
          exact e1
        · have hto : (c.take o ++ vs).length = o + vs.length := by simp; omega
          rw [List.getElem?_append_right (by rw [hto]; omega), hto, List.getElem?_drop] at hi
          obtain ⟨v', e1, e2⟩ := g4 _ v hi
          refine ⟨v', ?_, e2⟩
          have hto' : (c'.toList.take o ++ vs').length = o + vs.length := by simp; omega
          rw [List.getElem?_append_right (by rw [hto']; omega), hto', List.getElem?_drop, ← hvl]
          simpa using e1
  · intro q _ _ eq
    cases eq
    have := r.size b b' c e sp c' e f hb ha g1
    have h2 : (List.take (o + 0) c'.toList ++ vs' ++ List.drop (o + 0 + vs'.length) c'.toList).toArray.size = c'.size := by simp; omega
    rw [h2]
    exact ⟨this, gf hg⟩

def vstore (E : Env) (t : Tr V) (n : Nat) (h : Hp) (ty : TypeId) (x y : Operand) : Option (V × Hp) :=
  match ev E t n x, ev E t n y with
  | some (.ptr b o), some v => match h.at_ b, vcells v, E.P.info? ty with
    | some (.cells c e sp), some vs, some inf =>
      bif Nat.ble E.R b then (bif Nat.beq vs.length inf.size then (bif Nat.ble (o + vs.length) c.length then (bif noUnk vs then
        some (undefV, h.put b (.cells (c.take o ++ vs ++ c.drop (o + vs.length)) e sp)) else none) else none) else none) else none
    | _, _, _ => none
  | _, _ => none
theorem vstore_sound (r : WR E.R w0 σ h w) (ht : TR σ t n a.tmps) (hG : GR E σ) {o : Oper} {ty : TypeId} {x y : Operand} (ho : o.op = .store ty x y) {v : V} (he : vstore E t n h ty x y = some (v, h')) : Eff E w0 a.eval o σ w v h' := by
  unfold vstore at he
  split at he
  · rename_i b off u hx hy
    obtain ⟨b', h1, h2⟩ := (ev_rel ht hG hx).ptr_inv
    split at he
    · rename_i c e sp vs inf ha hvs hinf
      cases hb1 : Nat.ble E.R b with
      | false => rw [hb1] at he; cases he
      | true =>
        rw [hb1] at he
        simp only [cond_true] at he
        cases hb2 : Nat.beq vs.length inf.size with
        | false => rw [hb2] at he; cases he
        | true =>
          rw [hb2] at he
          simp only [cond_true] at he
          cases hb3 : Nat.ble (off + vs.length) c.length with
          | false => rw [hb3] at he; cases he
          | true =>
            rw [hb3] at he
            simp only [cond_true] at he
            cases hb4 : noUnk vs with
            | false => rw [hb4] at he; cases he
            | true =>
            rw [hb4] at he
            cases he
            have hr := vcells_rel (ev_rel ht hG hy) hvs
            obtain ⟨w', hst, r'⟩ := r.splice h1 ha (Nat.le_of_ble_eq_true hb1) hr hb4 (Nat.le_of_ble_eq_true hb3)
            refine ⟨undef, w', σ, .inr ⟨?_, rfl⟩, Ren.le_refl _, r', RT.undef _⟩
            have hsz : (a.eval y).cells.size = inf.size := by rw [← beq_iff.1 hb2, hr.length]; simp
            simp only [execOp, ho, Instr.storeAt, h2, Instr.sureAddr, Sem.run_bind, Sem.run_pure, Result.andThen_ok, storeVar, run_siz hinf, hsz, ne_eq, not_true_eq_false, if_false, hst]
    · cases he
  · cases he

/-! #### Slices that the call makes -/
def vbuildSlice (E : Env) (t : Tr V) (n : Nat) (h : Hp) (ty : TypeId) (len : Nat) (parts : Array (Nat × Operand)) : Option (V × Hp) :=
  match E.P.underlying ty with
  | some (.slice el) => match E.P.info? el, vzero E el, vparts E t n parts.toList with
    | some inf, some zs, some ps =>
      bif Nat.beq zs.length inf.size then (bif Nat.blt 0 inf.size then (bif Nat.ble (len * inf.size) 16777216 then
        (match vfill (fun i => some (i * inf.size, inf.size)) ((List.replicate len zs).flatten) ps with
        | some us => some (.sl h.n 0 len inf.size (some len), h.new (.cells us el false))
        | none => none) else none) else none) else none
    | _, _, _ => none
  | _ => none

theorem range_flat {α : Type} [Inhabited α] (zs : List α) (len : Nat) (hz : 0 < zs.length) : (List.range (len * zs.length)).map (fun i => zs[i % zs.length]!) = (List.replicate len zs).flatten := by
  induction len with
  | zero => simp
  | succ k ih =>
    rw [Nat.add_mul, Nat.one_mul, List.range_add, List.map_append, ih]
    have hr : List.replicate (k + 1) zs = List.replicate k zs ++ [zs] := List.replicate_succ'
    rw [hr]
    simp only [List.flatten_append, List.flatten_cons, List.flatten_nil, List.append_nil, List.map_map]
    congr 1
    apply List.ext_getElem?
    intro i
    by_cases hi : i < zs.length
    · simp [hi, Nat.mul_add_mod_self_right, Nat.mod_eq_of_lt hi]
    · simp [hi, List.getElem?_eq_none (Nat.le_of_not_lt hi)]

theorem vfill_length {place : Nat → Option (Nat × Nat)} : ∀ {ps : List (Nat × V)} {cells us : List V}, vfill place cells ps = some us → us.length = cells.length := by
  intro ps
  induction ps with
  | nil => intro cells us e; cases e; rfl
  | cons p r ih =>
    intro cells us e
    obtain ⟨i, v⟩ := p
    simp only [vfill] at e
    split at e
    · rename_i off size cs hp hcs
      cases h2 : Nat.beq cs.length size with
      | false => rw [h2] at e; cases e
      | true =>
        rw [h2] at e
        simp only [cond_true] at e
        cases h3 : Nat.ble (off + cs.length) cells.length with
        | false => rw [h3] at e; cases e
        | true =>
          rw [h3] at e
          rw [ih e, putAt_length]
    · cases e

theorem F2.replicate {R : V → Value → Prop} {zs : List V} {zs' : List Value} (h : F2 R zs zs') : ∀ len, F2 R (List.replicate len zs).flatten (List.replicate len zs').flatten
  | 0 => .nil
  | k + 1 => by simpa [List.replicate_succ] using h.append (F2.replicate h k)

theorem vbuildSlice_sound (r : WR E.R w0 σ h w) (ht : TR σ t n a.tmps) (hG : GR E σ) {o : Oper} {ty : TypeId} {len : Nat} {parts : Array (Nat × Operand)} (ho : o.op = .buildSlice ty len parts) {v : V}
    (he : vbuildSlice E t n h ty len parts = some (v, h')) : Eff E w0 a.eval o σ w v h' := by
  unfold vbuildSlice at he
  have hmap : (parts.map fun (p : Nat × Operand) => (p.1, a.eval p.2)).toList = parts.toList.map fun p => (p.1, a.eval p.2) := by simp
  split at he
  · rename_i el hu
    split at he
    · rename_i inf zs ps hinf hz hp
      obtain ⟨z, hzr, hzc⟩ := vzero_rel σ hz
      cases hb1 : Nat.beq zs.length inf.size with
      | false => rw [hb1] at he; cases he
      | true =>
        rw [hb1] at he
        simp only [cond_true] at he
        cases hb0 : Nat.blt 0 inf.size with
        | false => rw [hb0] at he; cases he
        | true =>
          rw [hb0] at he
          simp only [cond_true] at he
          cases hb2 : Nat.ble (len * inf.size) 16777216 with
          | false => rw [hb2] at he; cases he
          | true =>
            rw [hb2] at he
            simp only [cond_true] at he
            have hzl := beq_iff.1 hb1
            have hpos := blt_iff.1 hb0
            have h24 := Nat.le_of_ble_eq_true hb2
            split at he
            · rename_i us hus
              cases he
              have hzs : z.cells.size = inf.size := by rw [← hzl, hzc.length]; simp
              have hzero : ((Array.range (len * inf.size)).map (fun i => z.cells[i % z.cells.size]!)).toList = (List.replicate len z.cells.toList).flatten := by
                have := range_flat z.cells.toList len (by simp; omega)
                simp only [Array.length_toList, hzs] at this
                rw [← this]
                simp only [hzs, Array.toList_map, Array.toList_range]
                apply List.map_congr_left
                intro i _
                rw [getElem!_def, getElem!_def, Array.getElem?_toList]
              obtain ⟨us', e1, e2⟩ := vfill_rel (cells' := (Array.range (len * inf.size)).map (fun i => z.cells[i % z.cells.size]!)) (vparts_rel ht hG hp) (by rw [hzero]; exact hzc.replicate len) hus
              have hul : us.length = len * inf.size := by
                rw [vfill_length hus]
                simp [hzl]
              obtain ⟨r', hle⟩ := r.newCells el e2
              refine ⟨_, _, _, .inl ?_, hle, r', .val (.cell (.leaf (.sl (Ren.upd_same _ _ _ _) (fun k hk => by cases hk; rfl) (Nat.le_refl _) (by rw [Ren.updz_same, hul]; omega))))⟩
              by_cases hl0 : len = 0
              · subst hl0
                have he0 : (Array.range (0 * inf.size)).map (fun i => z.cells[i % z.cells.size]!) = (Array.range (0 * inf.size)).map (fun i => (#[] : Array Value)[i % (#[] : Array Value).size]!) := by simp
                rw [he0] at e1
                have hng : ¬ ((0 : Nat) > 2 ^ 24) := by omega
                have hz0 : 0 * inf.size = 0 := Nat.zero_mul _
                simp only [execOp, ho, Instr.buildSlice, Sem.run_bind, run_und hu, Result.andThen_ok, run_siz hinf, hng, if_false, hz0, if_true, Sem.run_pure, hmap, newRow, run_newObj, World.alloc_eq] at e1 ⊢
                simp only [e1, Sem.run_bind, Sem.run_pure, Result.andThen_ok, run_newObj, World.alloc_eq]
              · have hne : ¬ (len * inf.size = 0) := by
                  intro e
                  rcases Nat.mul_eq_zero.1 e with h | h <;> omega
                have hng : ¬ (len * inf.size > 2 ^ 24) := by omega
                simp only [execOp, ho, Instr.buildSlice, Sem.run_bind, run_und hu, Result.andThen_ok, run_siz hinf, hng, if_false, hne, hzr, Sem.run_pure, hmap, e1, newRow, run_newObj, World.alloc_eq]
            · cases he
    · cases he
  · cases he

def vmakeSlice (E : Env) (t : Tr V) (n : Nat) (h : Hp) (ty : TypeId) (l c : Operand) : Option (V × Hp) :=
  match E.P.underlying ty, ev E t n l, ev E t n c with
  | some (.slice el), some vl, some vc => match E.P.info? el, vzero E el, asN vl, asN vc with
    | some inf, some zs, some len, some cap =>
      bif Nat.beq zs.length inf.size then (bif Nat.blt 0 inf.size then (bif Nat.ble len cap then (bif Nat.ble cap 16777216 then (bif Nat.ble inf.bytes 16777216 then
        some (.sl h.n 0 len inf.size (some cap), h.new (.cells ((List.replicate cap zs).flatten) el false))
       else none) else none) else none) else none) else none
    | _, _, _, _ => none
  | _, _, _ => none

end
end
end Go.Proofs.YtmlfcaaecofnjaaGreatDoor.SM
