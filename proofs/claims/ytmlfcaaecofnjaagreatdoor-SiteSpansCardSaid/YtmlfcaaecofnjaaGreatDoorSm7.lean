/- The evaluator's make, append and copy. -/
import Derived.Test.YtmlfcaaecofnjaaGreatDoorSm6
import Derived.IntWalk
import Derived.Laws.AppendOwn
set_option linter.unusedVariables false
set_option linter.unusedSimpArgs false
namespace Go.Proofs.YtmlfcaaecofnjaaGreatDoor.SM
open Go Go.RowKit
noncomputable section

section
variable {E : Env} {w0 : World} {σ : Ren} {t : Tr V} {n : Nat} {a : Act} {h h' : Hp} {w : World}

theorem zeroCells_eq (z : Value) (k : Nat) (hz : 0 < z.cells.size) : ((Array.range (k * z.cells.size)).map (fun i => z.cells[i % z.cells.size]!)).toList = (List.replicate k z.cells.toList).flatten := by
  have := range_flat z.cells.toList k (by simpa using hz)
  simp only [Array.length_toList] at this
  rw [← this]
  simp only [Array.toList_map, Array.toList_range]
  apply List.map_congr_left
  intro i _
  rw [getElem!_def, getElem!_def, Array.getElem?_toList]

theorem vmakeSlice_sound (r : WR E.R w0 σ h w) (ht : TR σ t n a.tmps) (hG : GR E σ) {o : Oper} {ty : TypeId} {l c : Operand} (ho : o.op = .makeSlice ty l c) {v : V} (he : vmakeSlice E t n h ty l c = some (v, h')) : Eff E w0 a.eval o σ w v h' := by
  unfold vmakeSlice at he
  split at he
  · rename_i el vl vc hu hl hc
    split at he
    · rename_i inf zs len cap hinf hz hln hcn
      obtain ⟨ql, hql⟩ := asN_inv (ev_rel ht hG hl) hln
      obtain ⟨qc, hqc⟩ := asN_inv (ev_rel ht hG hc) hcn
      obtain ⟨z, hzr, hzc⟩ := vzero_rel σ hz
      cases hb1 : Nat.beq zs.length inf.size with
      | false => rw [hb1] at he; cases he
      | true =>
        rw [hb1] at he
        simp only [cond_true] at he
        cases hb2 : Nat.blt 0 inf.size with
        | false => rw [hb2] at he; cases he
        | true =>
          rw [hb2] at he
          simp only [cond_true] at he
          cases hb3 : Nat.ble len cap with
          | false => rw [hb3] at he; cases he
          | true =>
            rw [hb3] at he
            simp only [cond_true] at he
            cases hb4 : Nat.ble cap 16777216 with
            | false => rw [hb4] at he; cases he
            | true =>
              rw [hb4] at he
              simp only [cond_true] at he
              cases hb5 : Nat.ble inf.bytes 16777216 with
              | false => rw [hb5] at he; cases he
              | true =>
                rw [hb5] at he
                cases he
                have hzl := beq_iff.1 hb1
                have hpos := blt_iff.1 hb2
                have hlc := Nat.le_of_ble_eq_true hb3
                have hc24 := Nat.le_of_ble_eq_true hb4
                have hby := Nat.le_of_ble_eq_true hb5
                have hzs : z.cells.size = inf.size := by rw [← hzl, hzc.length]; simp
                have hcs : F2 (RC σ) ((List.replicate cap zs).flatten) ((Array.range (cap * inf.size)).map (fun i => z.cells[i % z.cells.size]!)).toList := by
                  rw [← hzs, zeroCells_eq z cap (by omega)]
                  exact hzc.replicate cap
                have hul : ((List.replicate cap zs).flatten).length = cap * inf.size := by simp [hzl]
                obtain ⟨r', hle⟩ := r.newCells el hcs
                refine ⟨_, _, _, .inl ?_, hle, r', .val (.cell (.leaf (.sl (Ren.upd_same _ _ _ _) (fun k hk => by cases hk; rfl) hlc (by rw [Ren.updz_same, hul]; omega))))⟩
                have hwl : IntKind.i64.wrap (len : Int) = len := IntWalk.i64_in _ (by omega)
                have hwc : IntKind.i64.wrap (cap : Int) = cap := IntWalk.i64_in _ (by omega)
                have hmul : inf.bytes * cap ≤ 281474976710656 := Nat.le_trans (Nat.mul_le_mul hby hc24) (by decide)
                have hmul' : ¬ ((inf.bytes : Int) * (cap : Int) > 2 ^ 48) := by
                  have h1 : ((inf.bytes * cap : Nat) : Int) ≤ ((281474976710656 : Nat) : Int) := Int.ofNat_le.2 hmul
                  rw [Int.natCast_mul] at h1
                  omega
                have hc0 : ¬ ((cap : Int) < 0) := by omega
                have hl0 : ¬ ((len : Int) < 0) := by omega
                have hlc' : ¬ ((len : Int) > (cap : Int)) := by omega
                have hti : (typeInfo el).run E.P w = .ok inf w := by simp [typeInfo, hinf]
                have hcond : ((decide ((cap : Int) < 0) || decide ((inf.bytes : Int) * (cap : Int) > 2 ^ 48)) || decide ((len : Int) < 0) || decide ((len : Int) > (cap : Int))) = false := by
                  simp only [hc0, hl0, hlc', hmul', decide_false, Bool.or_false, Bool.false_or]
                by_cases hcz : cap = 0
                · subst hcz
                  have he0 : (Array.range (0 * inf.size)).map (fun i => z.cells[i % z.cells.size]!) = (Array.range 0).map (fun i => (#[] : Array Value)[i % (#[] : Array Value).size]!) := by simp
                  rw [he0]
                  simp only [execOp, ho, Instr.makeSlice, Sem.run_bind, run_und hu, Result.andThen_ok, hql, hqc, asInt, asIntOf, Sem.run_pure, hti, hwl, hwc, hcond, Bool.false_eq_true, if_false, run_askRoom, run_siz hinf, Int.toNat_natCast, Nat.zero_mul, if_true, newRow, run_newObj, World.alloc_eq]
                · have hne : ¬ (cap * inf.size = 0) := by
                    intro e
                    rcases Nat.mul_eq_zero.1 e with h | h <;> omega
                  simp only [execOp, ho, Instr.makeSlice, Sem.run_bind, run_und hu, Result.andThen_ok, hql, hqc, asInt, asIntOf, Sem.run_pure, hti, hwl, hwc, hcond, Bool.false_eq_true, if_false, run_askRoom, run_siz hinf, Int.toNat_natCast, hne, hzr, newRow, run_newObj, World.alloc_eq]
    · cases he
  · cases he

/-! #### append -/
/-- What is appended: how much, and its cells. -/
structure Src (P : Program) (x : Value) (size m : Nat) (news : List Value) (w : World) : Prop where
  len : (Builtin.lenOf x).run P w = .ok m w
  cells : (Builtin.firstCells size m x).run P w = .ok ⟨news⟩ w
  dcells : (Builtin.firstCells size m x).run P w.drew = .ok ⟨news⟩ w.drew
  size : news.length = m * size

def srcD : TypeDesc → Bool
  | .slice _ => true
  | .string => true
  | _ => false
theorem srcD_cases {d : TypeDesc} (h : srcD d = true) : (∃ e, d = .slice e) ∨ d = .string := by
  cases d <;> first | exact .inl ⟨_, rfl⟩ | exact .inr rfl | cases h

theorem Src.slice {P : Program} {size m c : Nat} {b o : Nat} {news : List Value} (hl : news.length = m * size) (hc : ∀ j v, news[j]? = some v → w.cell? ⟨b, o + j, none⟩ = some v) : Src P (.slice (some ⟨b, o, none⟩) m c) size m news w := by
  refine ⟨rfl, ?_, ?_, hl⟩
  · exact run_firstCells_some w size m _ m c news hl fun j v hv => by rw [add_mk]; exact hc j v hv
  · exact run_firstCells_some w.drew size m _ m c news hl fun j v hv => by rw [add_mk]; exact hc j v hv
theorem Src.nil {P : Program} {size c : Nat} : Src P (.slice none 0 c) size 0 [] w := ⟨rfl, rfl, rfl, by simp⟩
theorem Src.empty {P : Program} {size c : Nat} {A : Addr} : Src P (.slice (some A) 0 c) size 0 [] w := by
  refine ⟨rfl, ?_, ?_, by simp⟩ <;> simp [Builtin.firstCells, loadCells, loadCellsFrom]
theorem Src.string {P : Program} {s : ByteArray} : Src P (.string s) 1 s.size (s.data.toList.map fun b => Value.int .u8 b.toNat) w := by
  have hx : (s.extract 0 s.size) = s := by
    apply ByteArray.ext
    simp
  refine ⟨rfl, ?_, ?_, by simp⟩ <;>
  · simp only [Builtin.firstCells, hx, Sem.run_pure]
    congr 1
    apply Array.ext'
    simp

theorem run_append_in {P : Program} {sT xT ty el : TypeId} {i : TypeInfo} {d : TypeDesc} (hs : P.underlying sT = some (.slice el)) (hx : P.underlying xT = some d) (hd : srcD d = true) (hi : P.info? el = some i)
    {A : Addr} {sLen sCap m : Nat} {x : Value} {news : List Value} (src : Src P x i.size m news w) (hr : sLen + m ≤ sCap) {w' : World} (hst : (storeCells (A.add (sLen * i.size)) news).run P w = .ok () w') :
    (Builtin.append_ #[sT, xT] ty #[.slice (some A) sLen sCap, x]).run P w = .ok (.slice (some A) (sLen + m) sCap) w' := by
  rcases srcD_cases hd with ⟨e, rfl⟩ | rfl <;>
  simp [Builtin.append_, run_und hs, run_und hx, run_siz hi, src.len, src.cells, hr, hst]

theorem run_append_none {P : Program} {sT xT ty el : TypeId} {i : TypeInfo} {d : TypeDesc} (hs : P.underlying sT = some (.slice el)) (hx : P.underlying xT = some d) (hd : srcD d = true) (hi : P.info? el = some i)
    {x : Value} {news : List Value} (src : Src P x i.size 0 news w) :
    (Builtin.append_ #[sT, xT] ty #[.slice none 0 0, x]).run P w = .ok (.slice none 0 0) w := by
  rcases srcD_cases hd with ⟨e, rfl⟩ | rfl <;>
  simp [Builtin.append_, run_und hs, run_und hx, run_siz hi, src.len, src.cells]

theorem run_append_out {P : Program} {sT xT ty el : TypeId} {i : TypeInfo} {z : Value} {d : TypeDesc} (hs : P.underlying sT = some (.slice el)) (hx : P.underlying xT = some d) (hd : srcD d = true) (hi : P.info? el = some i) (hz : i.zero = some z)
    {base : Option Addr} {sLen sCap m : Nat} {x : Value} {news olds : List Value} (src : Src P x i.size m news w) (hg : sCap < sLen + m) (ho : (Builtin.firstCells i.size sLen (.slice base sLen sCap)).run P w.drew = .ok ⟨olds⟩ w.drew)
    (h63 : ((sLen + m : Nat) : Int) ≤ 9223372036854775807) (hfit : Builtin.nextslicecap (sLen + m) sCap * i.bytes ≤ 281474976710656) :
    (Builtin.append_ #[sT, xT] ty #[.slice base sLen sCap, x]).run P w =
      .ok (.slice (some ⟨w.heap.size, 0, none⟩) (sLen + m) (grownCap w (sLen + m) sCap el)) (w.drew.alloc (.cells (⟨olds⟩ ++ ⟨news⟩ ++ Builtin.zeroCells z.cells (grownCap w (sLen + m) sCap el - (sLen + m))) el)) := by
  have hn : ¬ (sLen + m ≤ sCap) := by omega
  have h63' : ¬ (9223372036854775807 < ((sLen : Int) + (m : Int))) := by omega
  have h48' : ¬ (281474976710656 < Builtin.nextslicecap (sLen + m) sCap * i.bytes) := by omega
  have hti : ∀ W, (typeInfo el).run P W = .ok i W := fun W => by simp [typeInfo, hi]
  rcases srcD_cases hd with ⟨e, rfl⟩ | rfl <;>
  simp [Builtin.append_, run_und hs, run_und hx, run_siz hi, hti, run_zero hi hz, src.len, src.cells, src.dcells, ho, hn, h63', h48', Question.forced, newRow, grownCap]
  all_goals
    congr 2
    apply Array.ext'
    simp

/-- What is appended, by the evaluator. -/
def vsrc (E : Env) (h : Hp) (size : Nat) (xT : TypeId) (v : V) : Option (List V × Nat) :=
  match E.P.underlying xT with
  | none => none
  | some d => bif srcD d then
    (match v with
     | .sl b o m _ _ => match m with
       | 0 => some ([], 0)
       | _ => match h.at_ b with
         | some (.cells c _ _) => bif Nat.ble (o + m * size) c.length then some ((c.drop o).take (m * size), m) else none
         | _ => none
     | .sc (.slice none 0 0) => some ([], 0)
     | .sc (.string s) => bif Nat.beq size 1 then some (s.data.toList.map (fun b => V.sc (.int .u8 b.toNat)), s.size) else none
     | _ => none)
    else none

theorem F2.bytes {σ : Ren} (l : List UInt8) : F2 (RC σ) (l.map fun b => V.sc (.int .u8 b.toNat)) (l.map fun b => Value.int .u8 b.toNat) := by
  induction l with
  | nil => exact .nil
  | cons b r ih => exact .cons (.leaf (.sc rfl)) ih

theorem vsrc_rel (r : WR E.R w0 σ h w) {size m : Nat} {xT : TypeId} {v : V} {v' : Value} {news : List V} (hv : RT σ v v') (e : vsrc E h size xT v = some (news, m)) :
    ∃ (d : TypeDesc) (news' : List Value), E.P.underlying xT = some d ∧ srcD d = true ∧ F2 (RC σ) news news' ∧ Src E.P v' size m news' w := by
  unfold vsrc at e
  split at e
  · cases e
  · rename_i d hd
    cases hs : srcD d with
    | false => rw [hs] at e; cases e
    | true =>
      rw [hs] at e
      simp only [cond_true] at e
      split at e
      · rename_i b o k es cap
        split at e
        · cases e
          rcases hv.sl_inv with ⟨b', c', _, _, _, _, rfl⟩ | ⟨_, _, a', rfl⟩
          · exact ⟨d, [], hd, hs, .nil, Src.empty⟩
          · exact ⟨d, [], hd, hs, .nil, Src.empty⟩
        · rename_i hk0
          split at e
          · rename_i c el sp ha
            cases hb : Nat.ble (o + k * size) c.length with
            | false => rw [hb] at e; cases e
            | true =>
              rw [hb] at e
              cases e
              rcases hv.sl_inv with ⟨b', c', e1, _, _, _, rfl⟩ | ⟨h0, _⟩
              · obtain ⟨vs, g1, g2, g3⟩ := r.row e1 ha (Nat.le_of_ble_eq_true hb)
                exact ⟨d, vs, hd, hs, g1, Src.slice g2 g3⟩
              · exact absurd h0 hk0
          · cases e
      · cases e
        rw [hv.sc_inv]
        exact ⟨d, [], hd, hs, .nil, Src.nil⟩
      · rename_i s
        cases hb : Nat.beq size 1 with
        | false => rw [hb] at e; cases e
        | true =>
          rw [hb] at e
          cases e
          have := beq_iff.1 hb
          subst this
          rw [hv.sc_inv]
          exact ⟨d, _, hd, hs, F2.bytes _, Src.string⟩
      · cases e

def vappend (E : Env) (t : Tr V) (n : Nat) (h : Hp) (c : Call) : Option (V × Hp) :=
  match c.callee, c.args.toList, c.argTypes.toList with
  | .builtin .append, [s, x], [sT, xT] => match E.P.underlying sT, ev E t n s, ev E t n x with
    | some (.slice el), some vs, some vx => match E.P.info? el, vzero E el with
      | some inf, some zs =>
        bif Nat.beq zs.length inf.size then bif Nat.ble inf.bytes 1048576 then (bif Nat.blt 0 inf.size then
        (match vsrc E h inf.size xT vx with
        | some (news, m) => match vs with
          | .sc (.slice none 0 0) => match m with
            | 0 => some (.sc (.slice none 0 0), h)
            | _ => bif Nat.ble m 1048576 then some (.sl h.n 0 m inf.size none, h.new (.cells news el true)) else none
          | .sl b o len es cap => bif Nat.beq es inf.size then
            (match m with
            | 0 => some (.sl b o len es cap, h)
            | _ => bif Nat.ble (len + m) 1048576 then
              (match h.at_ b, cap with
              | some (.cells cb e sp), some c => bif Nat.ble (len + m) c then
                  (bif Nat.ble E.R b then (bif Nat.ble (o + len * es + news.length) cb.length then (bif noUnk news then
                    some (.sl b o (len + m) es (some c), h.put b (.cells (cb.take (o + len * es) ++ news ++ cb.drop (o + len * es + news.length)) e sp)) else none) else none) else none)
                else (bif Nat.ble (o + len * es) cb.length then some (.sl h.n 0 (len + m) es none, h.new (.cells ((cb.drop o).take (len * es) ++ news) el true)) else none)
              | some (.cells cb e sp), none =>
                bif Nat.beq o 0 then (bif Nat.ble E.R b then (bif Nat.beq e el then (bif Nat.ble (len * es) cb.length then (bif noUnk news then
                  some (.sl h.n 0 (len + m) es none, (h.put b .dead).new (.cells (cb.take (len * es) ++ news) el true)) else none) else none) else none) else none) else none
              | _, _ => none) else none)
            else none
          | _ => none
        | none => none) else none) else none else none
      | _, _ => none
    | _, _, _ => none
  | _, _, _ => none

theorem run_builtin_append {o : Oper} {c : Call} (ho : o.op = .call c) (hc : c.callee = .builtin .append) {l : List Operand} (ha : c.args.toList = l) {ts : List TypeId} (hts : c.argTypes.toList = ts) :
    (execOp a.eval o).run E.P w = ((Builtin.append_ ⟨ts⟩ o.type ⟨l.map a.eval⟩).run E.P w).andThen fun v w => .ok (.value v) w := by
  have hT : c.argTypes = ⟨ts⟩ := by apply Array.ext'; simp [hts]
  simp [execOp, ho, resolve, hc, args_list ha, invoke, builtin, hT]

theorem zero_cells {el : TypeId} {inf : TypeInfo} {zs : List V} (hi : E.P.info? el = some inf) (hz : vzero E el = some zs) : ∃ z, inf.zero = some z := by
  unfold vzero at hz
  rw [hi] at hz
  simp only at hz
  split at hz
  · rename_i z hz'; exact ⟨z, hz'⟩
  · cases hz

theorem zero_size {el : TypeId} {inf : TypeInfo} {zs : List V} {z : Value} (hi : E.P.info? el = some inf) (hz : vzero E el = some zs) (hz' : inf.zero = some z) (hl : zs.length = inf.size) : z.cells.size = inf.size := by
  obtain ⟨z2, h1, h2⟩ := vzero_rel (⟨fun _ => none, fun _ => 0⟩ : Ren) hz
  have h3 := h1 default
  rw [run_zero hi hz'] at h3
  cases h3
  rw [← hl, h2.length]; simp

theorem WR.grown (r : WR E.R w0 σ h w) {el : TypeId} {cs : List V} {cs' rest : List Value} (hc : F2 (RC σ) cs cs') :
    WR E.R w0 (σ.upd h.n w.heap.size (cs'.length + rest.length)) (h.new (.cells cs el true)) (w.drew.alloc (.cells ⟨cs' ++ rest⟩ el)) ∧ Ren.le σ (σ.upd h.n w.heap.size (cs'.length + rest.length)) := by
  have hle : Ren.le σ (σ.upd h.n w.heap.size (cs'.length + rest.length)) := Ren.le_upd _ _ (r.fresh _ (Nat.le_refl _))
  refine r.drew.new (cs'.length + rest.length) (.cells ?_ (fun h => by cases h) ?_) fun c _ _ e => by cases e; exact ⟨by simp, .inl rfl⟩
  · have := hc.length; simp; omega
  · intro i v hi
    obtain ⟨v', e1, e2⟩ := hc.at_ i v hi
    refine ⟨v', ?_, e2.mono hle⟩
    have hl := (List.getElem?_eq_some_iff.1 e1).1
    simp [List.getElem?_append_left hl, e1]

/-- The grown row and the slice over it. -/
theorem grow_eff (r : WR E.R w0 σ h w) {el : TypeId} {inf : TypeInfo} {z : Value} {zs : List V} (hinf : E.P.info? el = some inf) (hzs : vzero E el = some zs) (hz : inf.zero = some z) (hzl : z.cells.size = inf.size)
    {cs : List V} {olds news : List Value} (hc : F2 (RC σ) cs (olds ++ news)) {need sCap : Nat} (hlen : (olds ++ news).length = need * inf.size) (hneed : need ≤ 9223372036854775807) :
    ∃ σ', Ren.le σ σ' ∧ WR E.R w0 σ' (h.new (.cells cs el true)) (w.drew.alloc (.cells (⟨olds⟩ ++ ⟨news⟩ ++ Builtin.zeroCells z.cells (grownCap w need sCap el - need)) el)) ∧
      RT σ' (.sl h.n 0 need inf.size none) (.slice (some ⟨w.heap.size, 0, none⟩) need (grownCap w need sCap el)) := by
  have hge : need ≤ grownCap w need sCap el := grownCap_ge w need sCap el
  obtain ⟨r', hle⟩ := r.grown (el := el) (rest := (Builtin.zeroCells z.cells (grownCap w need sCap el - need)).toList) hc
  have harr : (⟨olds⟩ ++ ⟨news⟩ ++ Builtin.zeroCells z.cells (grownCap w need sCap el - need) : Array Value) = ⟨(olds ++ news) ++ (Builtin.zeroCells z.cells (grownCap w need sCap el - need)).toList⟩ := by
    apply Array.ext'; simp
  rw [harr]
  refine ⟨_, hle, r', .val (.cell (.leaf (.sl (Ren.upd_same _ _ _ _) (fun k hk => by cases hk) hge ?_)))⟩
  rw [Ren.updz_same, hlen]
  have hs : (Builtin.zeroCells z.cells (grownCap w need sCap el - need)).toList.length = (grownCap w need sCap el - need) * inf.size := by
    rw [← hzl]; simp [Builtin.zeroCells]
  rw [hs, ← Nat.add_mul]
  have : need + (grownCap w need sCap el - need) = grownCap w need sCap el := by omega
  rw [this]
  omega

theorem vappend_sound (r : WR E.R w0 σ h w) (ht : TR σ t n a.tmps) (hG : GR E σ) {o : Oper} {c : Call} (ho : o.op = .call c) {v : V} (he : vappend E t n h c = some (v, h')) : Eff E w0 a.eval o σ w v h' := by
  unfold vappend at he
  split at he
  · rename_i s x sT xT hc ha hts
    have hrun := run_builtin_append (E := E) (a := a) (w := w) ho hc ha hts
    simp only [List.map_cons, List.map_nil] at hrun
    split at he
    · rename_i el vs vx hu hvs hvx
      have hrs := ev_rel ht hG hvs
      have hrx := ev_rel ht hG hvx
      split at he
      · rename_i inf zs hinf hzs
        cases hb0 : Nat.beq zs.length inf.size with
        | false => rw [hb0] at he; cases he
        | true =>
        rw [hb0] at he
        simp only [cond_true] at he
        have hcov := beq_iff.1 hb0
        cases hb1 : Nat.ble inf.bytes 1048576 with
        | false => rw [hb1] at he; cases he
        | true =>
        rw [hb1] at he
        simp only [cond_true] at he
        cases hb2 : Nat.blt 0 inf.size with
        | false => rw [hb2] at he; cases he
        | true =>
        rw [hb2] at he
        simp only [cond_true] at he
        have hby := Nat.le_of_ble_eq_true hb1
        have hpos := blt_iff.1 hb2
        split at he
        · rename_i news m hsrc
          obtain ⟨d, news', hd1, hd2, hnews, src⟩ := vsrc_rel r hrx hsrc
          obtain ⟨z, hz⟩ := zero_cells hinf hzs
          have hnl := hnews.length
          have hsz := src.size
          have fit : ∀ need old : Nat, old < need → need ≤ 1048576 → Builtin.nextslicecap need old * inf.bytes ≤ 281474976710656 := fun need old h1 h2 =>
            growslice_fits h1 (Nat.le_trans (Nat.mul_le_mul h2 hby) (by decide))
          split at he
          · -- a nil slice
            have hs0 := hrs.sc_inv
            split at he
            · cases he
              refine ⟨.slice none 0 0, w, σ, .inl ?_, Ren.le_refl _, r, .val (.cell (.leaf (.sc rfl)))⟩
              rw [hrun, hs0, run_append_none hu hd1 hd2 hinf src]; rfl
            · rename_i hm0
              cases hb4 : Nat.ble m 1048576 with
              | false => rw [hb4] at he; cases he
              | true =>
              rw [hb4] at he
              cases he
              have hm := Nat.le_of_ble_eq_true hb4
              have hm0' : 0 < m := Nat.pos_of_ne_zero hm0
              have hzl := zero_size hinf hzs hz hcov
              obtain ⟨σ', hle, r', hv⟩ := grow_eff r hinf hzs hz hzl (olds := []) (news := news') (need := m) (sCap := 0) hnews (by simpa using hsz) (by omega)
              refine ⟨_, _, σ', .inl ?_, hle, r', hv⟩
              rw [hrun, hs0, run_append_out hu hd1 hd2 hinf hz (base := none) (sLen := 0) (sCap := 0) (olds := []) src (by omega) rfl (by omega) (fit _ _ (by omega) (by omega))]
              simp
          · rename_i b off len es cap
            cases hb3 : Nat.beq es inf.size with
            | false => rw [hb3] at he; cases he
            | true =>
            rw [hb3] at he
            simp only [cond_true] at he
            have hes := beq_iff.1 hb3
            split at he
            · cases he
              have hn0 : news' = [] := List.eq_nil_of_length_eq_zero (by simpa using hsz)
              subst hn0
              rcases hrs.sl_inv with ⟨b', c', _, _, hle, _, e5⟩ | ⟨e0, _, a', e5⟩
              · refine ⟨a.eval s, w, σ, .inl ?_, Ren.le_refl _, r, hrs⟩
                rw [hrun, e5, run_append_in hu hd1 hd2 hinf src (by omega) (by rfl : (storeCells _ []).run E.P w = .ok () w)]; rfl
              · refine ⟨a.eval s, w, σ, .inl ?_, Ren.le_refl _, r, hrs⟩
                rw [hrun, e5, run_append_in hu hd1 hd2 hinf src (by omega) (by rfl : (storeCells _ []).run E.P w = .ok () w)]; rfl
            · rename_i hm0
              cases hb4 : Nat.ble (len + m) 1048576 with
              | false => rw [hb4] at he; cases he
              | true =>
              rw [hb4] at he
              simp only [cond_true] at he
              split at he
              · rename_i cb e sp c hat
                cases hb5 : Nat.ble (len + m) c with
                | true =>
                  rw [hb5] at he
                  simp only [cond_true] at he
                  cases hb6 : Nat.ble E.R b with
                  | false => rw [hb6] at he; cases he
                  | true =>
                  rw [hb6] at he
                  simp only [cond_true] at he
                  cases hb7 : Nat.ble (off + len * es + news.length) cb.length with
                  | false => rw [hb7] at he; cases he
                  | true =>
                  rw [hb7] at he
                  simp only [cond_true] at he
                  cases hb9 : noUnk news with
                  | false => rw [hb9] at he; cases he
                  | true =>
                  rw [hb9] at he
                  cases he
                  rcases hrs.sl_inv with ⟨b', c', g1, g2, g3, g4, e5⟩ | ⟨_, e1, _⟩
                  · have hcc := g2 c rfl
                    subst hcc
                    obtain ⟨w', hst, r'⟩ := r.splice g1 hat (Nat.le_of_ble_eq_true hb6) hnews hb9 (Nat.le_of_ble_eq_true hb7)
                    refine ⟨_, w', σ, .inl ?_, Ren.le_refl _, r', .val (.cell (.leaf (.sl g1 (fun k hk => by cases hk; rfl) (Nat.le_of_ble_eq_true hb5) g4)))⟩
                    rw [hrun, e5, run_append_in hu hd1 hd2 hinf src (Nat.le_of_ble_eq_true hb5) (by rw [add_mk, ← hes]; exact hst)]; rfl
                  · cases e1
                | false =>
                  rw [hb5] at he
                  simp only [cond_false] at he
                  cases hb7 : Nat.ble (off + len * es) cb.length with
                  | false => rw [hb7] at he; cases he
                  | true =>
                  rw [hb7] at he
                  cases he
                  rcases hrs.sl_inv with ⟨b', c', g1, g2, g3, g4, e5⟩ | ⟨_, e1, _⟩
                  · have hcc := g2 c rfl
                    subst hcc
                    have hlt : c' < len + m := by
                      rcases Nat.lt_or_ge c' (len + m) with h | h
                      · exact h
                      · rw [Nat.ble_eq_true_of_le h] at hb5; cases hb5
                    have hzl := zero_size hinf hzs hz hcov
                    obtain ⟨vs, q1, q2, q3⟩ := r.row g1 hat (Nat.le_of_ble_eq_true hb7)
                    obtain ⟨σ', hle, r', hv⟩ := grow_eff r hinf hzs hz hzl (olds := vs) (news := news') (need := len + m) (sCap := c') (q1.append hnews) (by rw [List.length_append, q2, hsz, hes, Nat.add_mul]) (by have := Nat.le_of_ble_eq_true hb4; omega)
                    refine ⟨_, _, σ', .inl ?_, hle, r', by rw [hes]; exact hv⟩
                    rw [hrun, e5, run_append_out hu hd1 hd2 hinf hz (olds := vs) src hlt
                      (run_firstCells_some w.drew inf.size len _ len c' vs (by rw [q2, hes]) fun j v hv => by rw [add_mk]; exact q3 j v hv)
                      (by have := Nat.le_of_ble_eq_true hb4; omega) (fit _ _ hlt (Nat.le_of_ble_eq_true hb4))]
                    rfl
                  · cases e1
              · rename_i cb e sp hat
                cases hb5 : Nat.beq off 0 with
                | false => rw [hb5] at he; cases he
                | true =>
                rw [hb5] at he
                simp only [cond_true] at he
                cases hb6 : Nat.ble E.R b with
                | false => rw [hb6] at he; cases he
                | true =>
                rw [hb6] at he
                simp only [cond_true] at he
                cases hb8 : Nat.beq e el with
                | false => rw [hb8] at he; cases he
                | true =>
                rw [hb8] at he
                simp only [cond_true] at he
                cases hb7 : Nat.ble (len * es) cb.length with
                | false => rw [hb7] at he; cases he
                | true =>
                rw [hb7] at he
                simp only [cond_true] at he
                cases hb9 : noUnk news with
                | false => rw [hb9] at he; cases he
                | true =>
                rw [hb9] at he
                cases he
                have ho0 := beq_iff.1 hb5
                subst ho0
                have hee := beq_iff.1 hb8
                subst hee
                have hzl := zero_size hinf hzs hz hcov
                have h4 := Nat.le_of_ble_eq_true hb4
                rcases hrs.sl_inv with ⟨b', c', g1, g2, g3, g4, e5⟩ | ⟨e0, _, a', e5⟩
                · obtain ⟨vs, q1, q2, q3⟩ := r.row (o := 0) (n := len * es) g1 hat (by rw [Nat.zero_add]; exact Nat.le_of_ble_eq_true hb7)
                  simp only [List.drop_zero, Nat.zero_add] at q1 q3
                  by_cases hfit : len + m ≤ c'
                  · -- in its own room
                    obtain ⟨c1, f, k1, kf, k2, k3, k4⟩ := r.cells g1 hat
                    have hsize := r.size b b' cb e sp c1 e f g1 hat k1
                    have hroom : len * es + news'.length ≤ c1.size := by
                      rw [hsize, hsz, ← hes, ← Nat.add_mul]
                      have := Nat.mul_le_mul_right es hfit
                      omega
                    have h1 : ∀ v ∈ news', v.oneCell' = true := by
                      intro v hm
                      obtain ⟨i, hi⟩ := List.getElem?_of_mem hm
                      have hlt : i < news.length := by rw [hnl]; exact (List.getElem?_eq_some_iff.1 hi).1
                      obtain ⟨u, hu1, hu2⟩ := hnews.at_ i _ (List.getElem?_eq_getElem hlt)
                      rw [hi] at hu1; cases hu1
                      exact hu2.oneCell (noUnk_mem hb9 _ (List.getElem_mem hlt))
                    have hst := run_storeCells_calm (P := E.P) b' (len * es) e f news' 0 c1 w k1 (kf (Nat.le_of_ble_eq_true hb6)) (by simpa using hroom) h1
                    rw [setRow_putObj k1] at hst
                    simp only [Nat.add_zero] at hst
                    have hleU : Ren.le σ (σ.upd h.n b' (σ.z b)) := Ren.le_upd _ _ (r.fresh _ (Nat.le_refl _))
                    have hvs : vs = c1.toList.take (len * es) := by
                      apply List.ext_getElem?
                      intro j
                      by_cases hj : j < len * es
                      · have hj' : j < vs.length := by rw [q2]; exact hj
                        have := q3 j _ (List.getElem?_eq_getElem hj')
                        rw [cell_of_row w b' j c1 e f k1] at this
                        rw [List.getElem?_eq_getElem hj', List.getElem?_take_of_lt hj, Array.getElem?_toList, this]
                      · rw [List.getElem?_eq_none (by omega), List.getElem?_take_eq_none (by omega)]
                    obtain ⟨r', hle⟩ := r.again (o := .cells (cb.take (len * es) ++ news) e true) (o' := .cells (c1.toList.take (len * es) ++ news' ++ c1.toList.drop (len * es + news'.length)).toArray e f) g1 hat rfl (Nat.le_of_ble_eq_true hb6)
                      (by
                        have hF : F2 (RC σ) (cb.take (len * es) ++ news) (vs ++ news') := q1.append hnews
                        refine .cells ?_ (fun h => by cases h) ?_
                        · have := hF.length
                          rw [this, hvs]; simp
                        · intro i v hi
                          obtain ⟨v', e1, e2⟩ := hF.at_ i v hi
                          refine ⟨v', ?_, e2.mono hleU⟩
                          have hl := (List.getElem?_eq_some_iff.1 e1).1
                          rw [← hvs, List.getElem?_toArray, List.getElem?_append_left hl]
                          exact e1)
                      (by
                        intro q _ _ eq
                        cases eq
                        have h2 : (c1.toList.take (len * es) ++ news' ++ c1.toList.drop (len * es + news'.length)).toArray.size = c1.size := by simp; omega
                        rw [h2]
                        exact ⟨hsize, kf (Nat.le_of_ble_eq_true hb6)⟩)
                    refine ⟨_, _, _, .inl ?_, hle, r', .val (.cell (.leaf (.sl (Ren.upd_same _ _ _ _) (fun k hk => by cases hk) hfit (by rw [Ren.updz_same]; exact g4))))⟩
                    rw [hrun, e5, run_append_in hu hd1 hd2 hinf src hfit (by rw [add_mk, Nat.zero_add, ← hes]; exact hst)]; rfl
                  · -- in a new row
                    have hlt : c' < len + m := by omega
                    have rk := r.kill b
                    obtain ⟨σ', hle, r', hv⟩ := grow_eff rk hinf hzs hz hzl (olds := vs) (news := news') (need := len + m) (sCap := c') (q1.append hnews) (by rw [List.length_append, q2, hsz, hes, Nat.add_mul]) (by omega)
                    refine ⟨_, _, σ', .inl ?_, hle, r', by rw [hes]; exact hv⟩
                    rw [hrun, e5, run_append_out hu hd1 hd2 hinf hz (olds := vs) src hlt
                      (run_firstCells_some w.drew inf.size len _ len c' vs (by rw [q2, hes]) fun j v hv => by rw [add_mk, Nat.zero_add]; exact q3 j v hv)
                      (by omega) (fit _ _ hlt h4)]
                    rfl
                · subst e0
                  have rk := r.kill b
                  have hm0' : 0 < m := Nat.pos_of_ne_zero hm0
                  obtain ⟨σ', hle, r', hv⟩ := grow_eff rk hinf hzs hz hzl (cs := cb.take (0 * es) ++ news) (olds := []) (news := news') (need := 0 + m) (sCap := 0) (by simpa using hnews) (by simpa using hsz) (by omega)
                  refine ⟨_, _, σ', .inl ?_, hle, r', by rw [hes]; exact hv⟩
                  rw [hrun, e5, run_append_out hu hd1 hd2 hinf hz (olds := []) src (by omega)
                    (run_firstCells_some w.drew inf.size 0 _ 0 0 [] (by simp) fun j v hv => by simp at hv)
                    (by omega) (fit _ _ (by omega) h4)]
                  rfl
              · cases he
          · cases he
        · cases he
      · cases he
    · cases he
  · cases he

/-! #### append of so many zeros, at a nil slice -/
def vgrow (E : Env) (t : Tr V) (n : Nat) (h : Hp) (c : Call) : Option (V × Hp) :=
  match c.callee, c.args.toList, c.argTypes.toList with
  | .builtin .append, [s, x], [sT, xT] => match E.P.underlying sT, E.P.underlying xT, ev E t n s, ev E t n x with
    | some (.slice el), some (.int _), some (.sc (.slice none 0 0)), some vx => match E.P.info? el, vzero E el, asN vx with
      | some inf, some zs, some m =>
        bif Nat.beq zs.length inf.size then bif Nat.ble inf.bytes 1048576 then bif Nat.blt 0 inf.size then bif Nat.blt 0 m then bif Nat.ble m 1048576 then
          some (.sl h.n 0 m inf.size none, h.new (.cells ((List.replicate m zs).flatten) el true))
        else none else none else none else none else none
      | _, _, _ => none
    | _, _, _, _ => none
  | _, _, _ => none

theorem run_append_zeros {P : Program} {sT xT ty el : TypeId} {i : TypeInfo} {z : Value} {k : IntKind} {k' : IntKind} (hs : P.underlying sT = some (.slice el)) (hx : P.underlying xT = some (.int k)) (hi : P.info? el = some i) (hz : i.zero = some z)
    {m : Nat} (hm : 0 < m) (hm' : m ≤ 1048576) (hsz : 0 < i.size) (hby : i.bytes ≤ 1048576) :
    (Builtin.append_ #[sT, xT] ty #[.slice none 0 0, .int k' m]).run P w =
      .ok (.slice (some ⟨w.heap.size, 0, none⟩) (0 + m) (grownCap w (0 + m) 0 el)) (w.drew.alloc (.cells ((⟨[]⟩ : Array Value) ++ ⟨(Builtin.zeroCells z.cells m).toList⟩ ++ Builtin.zeroCells z.cells (grownCap w (0 + m) 0 el - (0 + m))) el)) := by
  have hn : ¬ (0 + m ≤ 0) := by omega
  have hw : IntKind.i64.wrap (m : Int) = m := IntWalk.i64_in _ (by omega)
  have hneg : ¬ ((m : Int) < 0) := by omega
  have hmul : m * i.bytes ≤ 281474976710656 := Nat.le_trans (Nat.mul_le_mul hm' hby) (by decide)
  have hmul' : ¬ (281474976710656 < (m : Int) * (i.bytes : Int)) := by
    have h1 : ((m * i.bytes : Nat) : Int) ≤ ((281474976710656 : Nat) : Int) := Int.ofNat_le.2 hmul
    rw [Int.natCast_mul] at h1
    omega
  have h63' : ¬ (9223372036854775807 < (m : Int)) := by omega
  have hcap : Builtin.nextslicecap m 0 = m := by
    unfold Builtin.nextslicecap
    rw [if_pos (by omega)]
  have h48' : ¬ (281474976710656 < m * i.bytes) := by omega
  have hne : ¬ (m = 0 ∨ i.size = 0) := by omega
  have hm0 : ¬ (m = 0) := by omega
  have hs0 : ¬ (i.size = 0) := by omega
  have hti : ∀ W, (typeInfo el).run P W = .ok i W := fun W => by simp [typeInfo, hi]
  simp [Builtin.append_, run_und hs, run_und hx, run_siz hi, hti, run_zero hi hz, asInt, asIntOf, hw, hneg, hmul', h63', hcap, h48', hne, hm0, hs0, Question.forced, newRow, grownCap, Builtin.firstCells]
  intro h0
  rcases Nat.mul_eq_zero.1 h0 with h | h <;> omega

theorem vgrow_sound (r : WR E.R w0 σ h w) (ht : TR σ t n a.tmps) (hG : GR E σ) {o : Oper} {c : Call} (ho : o.op = .call c) {v : V} (he : vgrow E t n h c = some (v, h')) : Eff E w0 a.eval o σ w v h' := by
  unfold vgrow at he
  split at he
  · rename_i s x sT xT hc ha hts
    have hrun := run_builtin_append (E := E) (a := a) (w := w) ho hc ha hts
    simp only [List.map_cons, List.map_nil] at hrun
    split at he
    · rename_i el k vx hu hxu hvs hvx
      have hrs := (ev_rel ht hG hvs).sc_inv
      split at he
      · rename_i inf zs m hinf hzs hmn
        obtain ⟨k', hk'⟩ := asN_inv (ev_rel ht hG hvx) hmn
        cases hb0 : Nat.beq zs.length inf.size with
        | false => rw [hb0] at he; cases he
        | true =>
        rw [hb0] at he
        simp only [cond_true] at he
        cases hb1 : Nat.ble inf.bytes 1048576 with
        | false => rw [hb1] at he; cases he
        | true =>
        rw [hb1] at he
        simp only [cond_true] at he
        cases hb2 : Nat.blt 0 inf.size with
        | false => rw [hb2] at he; cases he
        | true =>
        rw [hb2] at he
        simp only [cond_true] at he
        cases hb3 : Nat.blt 0 m with
        | false => rw [hb3] at he; cases he
        | true =>
        rw [hb3] at he
        simp only [cond_true] at he
        cases hb4 : Nat.ble m 1048576 with
        | false => rw [hb4] at he; cases he
        | true =>
        rw [hb4] at he
        cases he
        have hcov := beq_iff.1 hb0
        have hby := Nat.le_of_ble_eq_true hb1
        have hpos := blt_iff.1 hb2
        have hm0 := blt_iff.1 hb3
        have hm := Nat.le_of_ble_eq_true hb4
        obtain ⟨z, hz⟩ := zero_cells hinf hzs
        have hzl := zero_size hinf hzs hz hcov
        obtain ⟨z', hzr, hzc⟩ := vzero_rel σ hzs
        have hzz : z' = z := by
          have h1 := hzr w
          have h2 : (zeroValue el).run E.P w = .ok z w := by simp [zeroValue, typeInfo, hinf, hz]
          rw [h1] at h2
          cases h2; rfl
        subst hzz
        have hcs : F2 (RC σ) ((List.replicate m zs).flatten) ((Builtin.zeroCells z'.cells m).toList) := by
          unfold Builtin.zeroCells
          rw [zeroCells_eq z' m (by omega)]
          exact hzc.replicate m
        have hul : (([] : List Value) ++ (Builtin.zeroCells z'.cells m).toList).length = m * inf.size := by
          rw [← hzl]; simp [Builtin.zeroCells]
        obtain ⟨σ', hle, r', hv⟩ := grow_eff r hinf hzs hz hzl (olds := []) (news := (Builtin.zeroCells z'.cells m).toList) (need := m) (sCap := 0) hcs hul (by omega)
        refine ⟨_, _, σ', .inl ?_, hle, r', hv⟩
        rw [hrun, hrs, hk', run_append_zeros hu hxu hinf hz hm0 hm hpos hby]
        simp
      · cases he
    · cases he
  · cases he

end
end
end Go.Proofs.YtmlfcaaecofnjaaGreatDoor.SM
