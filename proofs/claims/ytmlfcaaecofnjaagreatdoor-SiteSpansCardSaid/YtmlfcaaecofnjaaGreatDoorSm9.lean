/- The evaluator's writes to maps and ranges over strings; all operations that call nothing. -/
import Derived.Test.YtmlfcaaecofnjaaGreatDoorSm8
import Derived.Lib.ConvBytes
import Derived.Laws.BytesString
set_option linter.unusedVariables false
set_option linter.unusedSimpArgs false
namespace Go.Proofs.YtmlfcaaecofnjaaGreatDoor.SM
open Go Go.RowKit
noncomputable section

section
variable {E : Env} {w0 : World} {σ : Ren} {t : Tr V} {n : Nat} {a : Act} {h h' : Hp} {w : World}

def notTup : V → Bool
  | .tup _ => false
  | _ => true
theorem RT.of_notTup {v : V} {v' : Value} (hv : RT σ v v') (hn : notTup v = true) : RV σ v v' := by
  cases hv with
  | val h => exact h
  | tup h => cases hn

def setVal (es : List (Value × V × Nat)) (i : Nat) (v : V) : List (Value × V × Nat) :=
  match es, i with
  | [], _ => []
  | e :: r, 0 => (e.1, v, e.2.2) :: r
  | e :: r, i + 1 => e :: setVal r i v

theorem setVal_rel {v : V} {v' k : Value} (hv : RV σ v v') : ∀ {es : List (Value × V × Nat)} {es' : List MapEntry}, F2 (ER σ) es es' → ∀ (i : Nat), (∀ e, es'[i]? = some e → e.key = k) →
    F2 (ER σ) (setVal es i v) (es'.modify i fun e => { e with key := k, val := v' }) := by
  intro es es' hf
  induction hf with
  | nil => intro i hk; cases i <;> exact .nil
  | @cons x y xs ys h1 _ ih =>
    intro i hk
    cases i with
    | zero =>
      have := hk y (by simp)
      refine .cons ⟨?_, hv, h1.born⟩ ‹_›
      exact this.symm.trans h1.key
    | succ i =>
      refine .cons h1 ?_
      exact ih i fun e he => hk e (by simpa using he)

def vmapSet (E : Env) (t : Tr V) (n : Nat) (h : Hp) (mt : TypeId) (x ix y : Operand) : Option (V × Hp) :=
  match E.P.underlying mt, ev E t n x, plainOf E t n ix, ev E t n y with
  | some (.map kt _), some (.mp m), some k, some v => match h.at_ m, E.P.underlying kt with
    | some (.map es clk), some d => bif Nat.ble E.R m then (bif keyD d then (bif notTup v then
        (match vfindNow d k es 0 with
        | some (some (i, _)) => some (undefV, h.put m (.map (setVal es i v) clk))
        | some none => some (undefV, h.put m (.map (es ++ [(k, v, clk)]) (clk + 1)))
        | none => none) else none) else none) else none
    | _, _ => none
  | _, _, _, _ => none

theorem bytesEq (x y : ByteArray) : (x == y) = true ↔ x = y := by
  cases x with
  | mk p =>
  cases y with
  | mk q =>
  refine ⟨fun h => ?_, fun h => ?_⟩
  · have e : p = q := by simpa using (show (p == q) = true from h)
    rw [e]
  · rw [h]
    show (q == q) = true
    simp

theorem sameNow_bits {d : TypeDesc} {x y : Value} (h : Instr.sameNow d x y = some true) : Instr.sameBits 10000 y x = true ∧ y = x := by
  unfold Instr.sameNow at h
  split at h
  · split at h
    · rename_i hk
      subst hk
      simp at h
      subst h
      simp [Instr.sameBits]
    · cases h
  · rename_i p q
    have hpq : p = q := (bytesEq p q).1 (by simpa using h)
    subst hpq
    exact ⟨by simp only [Instr.sameBits]; exact (bytesEq p p).2 rfl, rfl⟩
  · simp at h; subst h; simp [Instr.sameBits]
  · cases h

theorem vmapSet_sound (r : WR E.R w0 σ h w) (ht : TR σ t n a.tmps) (hG : GR E σ) {o : Oper} {mt : TypeId} {x ix y : Operand} (ho : o.op = .mapUpdate mt x ix y ∨ o.op = .insert mt x ix y) {v : V} (e : vmapSet E t n h mt x ix y = some (v, h')) :
    Eff E w0 a.eval o σ w v h' := by
  unfold vmapSet at e
  split at e
  · rename_i kt el m k u hu hx hk hy
    obtain ⟨m', h1, h2⟩ := (ev_rel ht hG hx).mp_inv
    have hk' := plainOf_rel ht hG hk
    split at e
    · rename_i es clk d ha hd
      cases hb : Nat.ble E.R m with
      | false => rw [hb] at e; cases e
      | true =>
      rw [hb] at e
      simp only [cond_true] at e
      cases hkd : keyD d with
      | false => rw [hkd] at e; cases e
      | true =>
      rw [hkd] at e
      simp only [cond_true] at e
      cases hnt : notTup u with
      | false => rw [hnt] at e; cases e
      | true =>
      rw [hnt] at e
      simp only [cond_true] at e
      obtain ⟨es', g1, g2⟩ := r.map_ h1 ha
      have hck := fun b v => keyD_check (w := w) hkd hd b v
      have hv := (ev_rel ht hG hy).of_notTup hnt
      have hg := Nat.le_of_ble_eq_true hb
      split at e
      · rename_i i u0 hf
        cases e
        obtain ⟨v', e0, q1, q2, q3, q4, q5⟩ := vfindNow_rel g2 hf
        obtain ⟨b1, b2⟩ := sameNow_bits q5
        simp only [Nat.sub_zero] at q4
        have hkey : es'[i]? = some e0 := by rw [← Array.getElem?_toList]; exact q4
        have r' := r.put (o := .map (setVal es i u) clk) (o' := .map (es'.modify i fun e => { e with key := k, val := a.eval y }) clk) h1 ha rfl hg
          (.map (by rw [Array.toList_modify]; exact setVal_rel hv g2 i fun e he => by rw [q4] at he; cases he; exact b2)) (fun _ _ _ eq => by cases eq)
        refine ⟨undef, _, σ, .inr ⟨?_, rfl⟩, Ren.le_refl _, r', RT.undef _⟩
        have hstays : (Instr.keyThatStays e0.key k).run E.P w = .ok k w := by simp [Instr.keyThatStays, b1]
        rcases ho with ho | ho <;>
        simp [execOp, ho, Instr.mapUpdate, run_und hu, h2, getObj_map g1, hk', hck, Instr.findKey, run_und hd, q1, hkey, hstays, setObj_map _ g1]
      · rename_i hf
        cases e
        have q1 := vfindNow_rel g2 hf
        simp only at q1
        have r' := r.put (o := .map (es ++ [(k, u, clk)]) (clk + 1)) (o' := .map (es'.push { key := k, val := a.eval y, born := clk }) (clk + 1)) h1 ha rfl hg
          (.map (by rw [Array.toList_push]; exact g2.append (.cons ⟨rfl, hv, rfl⟩ .nil))) (fun _ _ _ eq => by cases eq)
        refine ⟨undef, _, σ, .inr ⟨?_, rfl⟩, Ren.le_refl _, r', RT.undef _⟩
        rcases ho with ho | ho <;>
        simp [execOp, ho, Instr.mapUpdate, run_und hu, h2, getObj_map g1, hk', hck, Instr.findKey, run_und hd, q1, setObj_map _ g1]
      · cases e
    · cases e
  · cases e

/-! #### Ranges over strings -/
def vrange (E : Env) (t : Tr V) (n : Nat) (h : Hp) (xt : TypeId) (x : Operand) : Option (V × Hp) :=
  match E.P.underlying xt, ev E t n x with
  | some .string, some (.sc (.string s)) => some (.ptr h.n 0, h.new (.sit s 0))
  | _, _ => none
theorem vrange_sound (r : WR E.R w0 σ h w) (ht : TR σ t n a.tmps) (hG : GR E σ) {o : Oper} {xt : TypeId} {x : Operand} (ho : o.op = .range xt x) {v : V} (he : vrange E t n h xt x = some (v, h')) : Eff E w0 a.eval o σ w v h' := by
  unfold vrange at he
  split at he
  · rename_i s hu hx
    cases he
    have hs := (ev_rel ht hG hx).sc_inv
    obtain ⟨r', hle⟩ := r.new 0 (o := .sit s 0) (o' := .stringIter s 0) .sit (fun _ _ _ e => by cases e)
    refine ⟨_, _, _, .inl ?_, hle, r', .val (.cell (.leaf (.ptr (Ren.upd_same _ _ _ _))))⟩
    simp [execOp, ho, Instr.range, run_und hu, hs, World.alloc_eq]
  · cases he

def vnext (E : Env) (t : Tr V) (n : Nat) (h : Hp) (x : Operand) (isS : Bool) : Option (V × Hp) :=
  match ev E t n x, isS with
  | some (.ptr b 0), true => match h.at_ b with
    | some (.sit s pos) => bif Nat.ble E.R b then (bif Nat.blt pos s.size then
        (match Utf8.decode s pos with
        | (c, width) => some (.tup [.sc (.bool true), .sc (.int .i64 pos), .sc (.int .i32 c)], h.put b (.sit s (pos + width))))
        else some (.tup [.sc (.bool false)], h)) else none
    | _ => none
  | _, _ => none
theorem getObj_sit {P : Program} {m : Nat} {s : ByteArray} {pos : Nat} (hm : w.heap[m]? = some (.stringIter s pos)) : (getObj m).run P w = .ok (.stringIter s pos) w := by simp [getObj, Sem.run, hm]
theorem setObj_sit {P : Program} {m : Nat} {s : ByteArray} {pos : Nat} (o : Obj) (hm : w.heap[m]? = some (.stringIter s pos)) : (setObj m o).run P w = .ok () (w.putObj m o) := by simp [setObj, Sem.run, hm, World.putObj]
theorem vnext_sound (r : WR E.R w0 σ h w) (ht : TR σ t n a.tmps) (hG : GR E σ) {o : Oper} {x : Operand} {isS : Bool} (ho : o.op = .next x isS) {v : V} (he : vnext E t n h x isS = some (v, h')) : Eff E w0 a.eval o σ w v h' := by
  unfold vnext at he
  split at he
  · rename_i b hx
    obtain ⟨b', h1, h2⟩ := (ev_rel ht hG hx).ptr_inv
    split at he
    · rename_i s pos ha
      cases hb : Nat.ble E.R b with
      | false => rw [hb] at he; cases he
      | true =>
      rw [hb] at he
      simp only [cond_true] at he
      obtain ⟨o', g1, g2⟩ := r.obj b b' _ h1 ha rfl
      cases g2
      cases hp : Nat.blt pos s.size with
      | false =>
        rw [hp] at he
        cases he
        have hlt : ¬ pos < s.size := fun hh => by rw [blt_iff.2 hh] at hp; cases hp
        refine ⟨.tuple #[.bool false], w, σ, .inl ?_, Ren.le_refl _, r, .tup (.cons (.cell (.leaf (.sc rfl))) .nil)⟩
        simp [execOp, ho, Instr.next, h2, getObj_sit g1, hlt]
      | true =>
        rw [hp] at he
        have hlt := blt_iff.1 hp
        simp only [cond_true] at he
        cases hdec : Utf8.decode s pos with
        | mk c width =>
        rw [hdec] at he
        cases he
        have r' := r.put (o := .sit s (pos + width)) (o' := .stringIter s (pos + width)) h1 ha rfl (Nat.le_of_ble_eq_true hb) .sit (fun _ _ _ eq => by cases eq)
        refine ⟨.tuple #[.bool true, .int .i64 pos, .int .i32 c], _, σ, .inl ?_, Ren.le_refl _, r', .tup (.cons (.cell (.leaf (.sc rfl))) (.cons (.cell (.leaf (.sc rfl))) (.cons (.cell (.leaf (.sc rfl))) .nil)))⟩
        simp [execOp, ho, Instr.next, h2, getObj_sit g1, hlt, hdec, setObj_sit _ g1, goInt]
    · cases he
  · cases he

/-! #### Strings to bytes, bytes to strings -/
def isU8 (E : Env) (e : TypeId) : Bool :=
  match E.P.underlying e with
  | some (.int .u8) => true
  | _ => false
theorem isU8_eq {E : Env} {e : TypeId} (h : isU8 E e = true) : E.P.underlying e = some (.int .u8) := by
  unfold isU8 at h
  split at h
  · assumption
  · cases h

def vs2b (E : Env) (t : Tr V) (n : Nat) (h : Hp) (src dst : TypeId) (x : Operand) : Option (V × Hp) :=
  match ev E t n x, E.P.underlying src, E.P.underlying dst with
  | some (.sc (.string s)), some _, some (.slice e) => bif isU8 E e then some (.sl h.n 0 s.size 1 none, h.new (.cells (s.data.toList.map (fun b => V.sc (.int .u8 b.toNat))) e true)) else none
  | _, _, _ => none

theorem bytesWorld_eq (w : World) (e : TypeId) (s : ByteArray) : Lib.bytesWorld w e s = { w.drew with heap := w.drew.heap.push (.cells (Lib.bytesCells w e s) e ((Lib.bytesCells w e s).size, (Lib.bytesCells w e s).size + 1)) } := by
  have hheap : (Lib.bytesWorld w e s).heap = w.heap.push (.cells (Lib.bytesCells w e s) e ((Lib.bytesCells w e s).size, (Lib.bytesCells w e s).size + 1)) := by
    apply Array.ext_getElem?
    intro j
    rcases Nat.lt_trichotomy j w.heap.size with h | h | h
    · rw [Lib.bytesWorld_at_old w e s j h, Array.getElem?_push, if_neg (by omega)]
    · subst h
      rw [Lib.bytesWorld_at_new, Array.getElem?_push, if_pos rfl]
    · rw [Array.getElem?_eq_none (by rw [Lib.bytesWorld_size]; omega), Array.getElem?_eq_none (by simp; omega)]
  have hrest : Lib.bytesWorld w e s = { w.drew with heap := (Lib.bytesWorld w e s).heap } := rfl
  rw [hrest, hheap]
  rfl

theorem vs2b_sound (r : WR E.R w0 σ h w) (ht : TR σ t n a.tmps) (hG : GR E σ) {o : Oper} {src dst : TypeId} {x : Operand} (ho : o.op = .convert src dst x) {v : V} (he : vs2b E t n h src dst x = some (v, h')) : Eff E w0 a.eval o σ w v h' := by
  unfold vs2b at he
  split at he
  · rename_i s u e hx hs hd
    cases hu : isU8 E e with
    | false => rw [hu] at he; cases he
    | true =>
      rw [hu] at he
      cases he
      have hev := (ev_rel ht hG hx).sc_inv
      have hrun := Lib.run_convert_string_bytes (P := E.P) w src dst e s hs hd (isU8_eq hu)
      have hle : Ren.le σ (σ.upd h.n w.heap.size (Lib.bytesCells w e s).size) := Ren.le_upd _ _ (r.fresh _ (Nat.le_refl _))
      have hge : s.size ≤ grownCap w s.size 0 e := grownCap_ge w s.size 0 e
      have hsz : (Lib.bytesCells w e s).size = grownCap w s.size 0 e := by
        unfold Lib.bytesCells
        have : s.data.size = s.size := rfl
        simp [this]
        omega
      obtain ⟨r', _⟩ := r.drew.new (Lib.bytesCells w e s).size (o := .cells (s.data.toList.map (fun b => V.sc (.int .u8 b.toNat))) e true)
        (o' := .cells (Lib.bytesCells w e s) e ((Lib.bytesCells w e s).size, (Lib.bytesCells w e s).size + 1))
        (.cells (by unfold Lib.bytesCells; simp) (fun h => by cases h) (by
          intro i v hi
          rw [List.getElem?_map] at hi
          cases hb : s.data.toList[i]? with
          | none => rw [hb] at hi; cases hi
          | some b =>
            rw [hb] at hi
            cases hi
            refine ⟨.int .u8 b.toNat, ?_, .leaf (.sc rfl)⟩
            have hlt := (List.getElem?_eq_some_iff.1 hb).1
            unfold Lib.bytesCells
            rw [Array.getElem?_append_left (by simpa using hlt), Array.getElem?_map, ← Array.getElem?_toList, hb]
            rfl)) (fun c e f h => by cases h; exact ⟨rfl, .inr rfl⟩)
      refine ⟨_, _, _, .inl ?_, hle, r', .val (.cell (.leaf (.sl (Ren.upd_same _ _ _ _) (fun k hk => by cases hk) hge (by rw [Ren.updz_same, hsz]; omega))))⟩
      simp only [execOp, ho, hev, Sem.run_bind, hrun, Result.andThen_ok, Sem.run_pure, bytesWorld_eq]
      rfl
  · cases he

/-- A slice of bytes, converted to its own type: the row is marked. -/
def vs2s (E : Env) (t : Tr V) (n : Nat) (h : Hp) (src dst : TypeId) (x : Operand) : Option (V × Hp) :=
  match ev E t n x, E.P.underlying src with
  | some (.sl b o (m + 1) es cap), some (.slice e) => bif Nat.beq src dst then (bif isU8 E e then (bif Nat.ble E.R b then (match h.at_ b with
    | some (.cells c el sp) => some (.sl b o (m + 1) es cap, h.put b (.cells c el sp))
    | _ => none) else none) else none) else none
  | _, _ => none

theorem freeze_putObj {w : World} {b : Nat} {c : Array Value} {e : TypeId} {f : Nat × Nat} (hg : w.heap[b]? = some (.cells c e f)) (hf : Calm f c.size) : w.freeze ⟨b, c.size, none⟩ 1 = w.putObj b (.cells c e (c.size, c.size + 1)) := by
  unfold World.freeze World.putObj
  rw [if_neg (by decide)]
  congr 1
  apply Array.ext'
  obtain ⟨hl, hc⟩ := Array.getElem?_eq_some_iff.1 hg
  rw [Array.toList_modify, Array.toList_setIfInBounds]
  apply List.ext_getElem?
  intro i
  rw [List.getElem?_modify, List.getElem?_set]
  by_cases hi : b = i
  · subst hi
    rcases hf with hf | hf
    · subst hf; simp [hl, hc]
    · subst hf; simp [hl, hc]
  · simp [hi]

theorem vs2s_sound (r : WR E.R w0 σ h w) (ht : TR σ t n a.tmps) (hG : GR E σ) {o : Oper} {src dst : TypeId} {x : Operand} (ho : o.op = .convert src dst x) {v : V} (he : vs2s E t n h src dst x = some (v, h')) : Eff E w0 a.eval o σ w v h' := by
  unfold vs2s at he
  split at he
  · rename_i b off m es cap e hx hs
    cases h1 : Nat.beq src dst with
    | false => rw [h1] at he; cases he
    | true =>
      rw [h1] at he
      simp only [cond_true] at he
      have hsd := beq_iff.1 h1
      subst hsd
      cases hu : isU8 E e with
      | false => rw [hu] at he; cases he
      | true =>
        rw [hu] at he
        simp only [cond_true] at he
        cases hg : Nat.ble E.R b with
        | false => rw [hg] at he; cases he
        | true =>
          rw [hg] at he
          simp only [cond_true] at he
          split at he
          · rename_i c el sp hat
            cases he
            have hrel := ev_rel ht hG hx
            rcases hrel.sl_inv with ⟨b', c', g1, g2, g3, g4, e5⟩ | ⟨g0, _, _⟩
            · obtain ⟨c1, f, k1, kf, k2, k3, k4⟩ := r.cells g1 hat
              have hsh : w.shape? b' = some (el, c1.size) := by simp [World.shape?, k1]
              have hrun : (convert src src (.slice (some ⟨b', off, none⟩) (m + 1) c')).run E.P w = .ok (.slice (some ⟨b', off, none⟩) (m + 1) c') (w.freeze ⟨b', c1.size, none⟩ 1) := by
                simp [convert, run_underlying hs, run_underlying (isU8_eq hu), markStringish, hsh]
              have r' := r.put (o := .cells c el sp) (o' := .cells c1 el (c1.size, c1.size + 1)) g1 hat rfl (Nat.le_of_ble_eq_true hg) (.cells k2 k3 k4) (fun q _ _ eq => by cases eq; exact ⟨r.size b b' c el sp c1 el f g1 hat k1, .inr rfl⟩)
              refine ⟨_, _, σ, .inl ?_, Ren.le_refl _, r', hrel⟩
              simp only [execOp, ho, e5, Sem.run_bind, hrun, Result.andThen_ok, Sem.run_pure, freeze_putObj k1 (kf (Nat.le_of_ble_eq_true hg))]
            · omega
          · cases he
  · cases he

def bytesOf : List V → Option (List Int)
  | [] => some []
  | .sc (.int .u8 k) :: r => match bytesOf r with
    | some bs => some (k :: bs)
    | none => none
  | _ :: _ => none

theorem bytesOf_rel {σ : Ren} : ∀ {vs : List V} {vs' : List Value} {bs : List Int}, bytesOf vs = some bs → F2 (RC σ) vs vs' → vs' = bs.map (Value.int .u8) := by
  intro vs
  induction vs with
  | nil => intro vs' bs e h; cases e; cases h; rfl
  | cons v r ih =>
    intro vs' bs e h
    cases h with
    | cons h1 h2 =>
      unfold bytesOf at e
      split at e
      · rename_i heq; cases heq
      · rename_i k r' heq
        cases heq
        split at e
        · rename_i cs hcs
          cases e
          have := ih hcs h2
          subst this
          cases h1 with
          | leaf h => cases h; rfl
        · cases e
      · cases e

def vb2s (E : Env) (t : Tr V) (n : Nat) (h : Hp) (src dst : TypeId) (x : Operand) : Option V :=
  match ev E t n x, E.P.underlying src, E.P.underlying dst with
  | some (.sl b o m es _), some (.slice e), some .string => bif isU8 E e then (bif Nat.ble 1 m then (match h.at_ b with
    | some (.cells c _ _) => bif Nat.ble (o + m) c.length then (match bytesOf ((c.drop o).take m) with
      | some bs => some (.sc (.string (bs.foldl (fun r n => r.push (UInt8.ofNat n.toNat)) ByteArray.empty)))
      | none => none) else none
    | _ => none) else none) else none
  | _, _, _ => none

theorem vb2s_sound (r : WR E.R w0 σ h w) (ht : TR σ t n a.tmps) (hG : GR E σ) {o : Oper} {src dst : TypeId} {x : Operand} (ho : o.op = .convert src dst x) {v : V} (e : vb2s E t n h src dst x = some v) : ∃ v', (execOp a.eval o).run E.P w = .ok (.value v') w ∧ RT σ v v' := by
  unfold vb2s at e
  split at e
  · rename_i b off m es cap el hx hs hd
    cases hu : isU8 E el with
    | false => rw [hu] at e; cases e
    | true =>
      rw [hu] at e
      simp only [cond_true] at e
      cases h1 : Nat.ble 1 m with
      | false => rw [h1] at e; cases e
      | true =>
        rw [h1] at e
        simp only [cond_true] at e
        split at e
        · rename_i c el' sp hat
          cases h2 : Nat.ble (off + m) c.length with
          | false => rw [h2] at e; cases e
          | true =>
            rw [h2] at e
            simp only [cond_true] at e
            split at e
            · rename_i bs hbs
              cases e
              have hm := Nat.le_of_ble_eq_true h1
              rcases (ev_rel ht hG hx).sl_inv with ⟨b', c', g1, _, _, _, e5⟩ | ⟨g0, _, _⟩
              · obtain ⟨vs, q1, q2, q3⟩ := r.row g1 hat (Nat.le_of_ble_eq_true h2)
                have hvs := bytesOf_rel hbs q1
                have hl : (loadCells ⟨b', off, none⟩ m).run E.P w = .ok (bs.map (Value.int .u8)).toArray w := by
                  rw [← hvs, ← q2]
                  exact run_loadCells_list w _ vs fun j v hv => by rw [add_mk]; exact q3 j v hv
                refine ⟨_, ?_, .val (.cell (.leaf (.sc rfl)))⟩
                simp only [execOp, ho, e5, Sem.run_bind, run_convert_bytes_string w src dst el _ m c' hs (isU8_eq hu) hd, run_bytesToString w _ m c' bs hl, Result.andThen_ok, Sem.run_pure]
              · omega
            · cases e
        · cases e
  · cases e

/-! #### All together -/
/-- Operations that ask nothing of memory. -/
def vpure (E : Env) (t : Tr V) (n : Nat) (o : Oper) : Option V :=
  match o.op with
  | .move x => ev E t n x
  | .assign x => ev E t n x
  | .pick c x y => vpick E t n c x y
  | .extract x i => vextract E t n x i
  | .makeFunc f fi cs => vmakeFunc E t n f fi cs
  | .nilCheck x => vnilCheck E t n x
  | .fieldAddr s x f => vfieldAddr E t n s x f
  | .indexAddr xt x ix => vindexAddr E t n xt x ix
  | .sliceToArrayPointer ty x => vs2ap E t n ty x
  | .field xt x f => vfield E t n xt x f
  | .index xt x ix => match vindex E t n xt x ix with
    | some v => some v
    | none => vgen E t n o
  | .slice xt x lo hi mx => match vslice E t n xt x lo hi mx with
    | some v => some v
    | none => vgen E t n o
  | .build ty ps => vbuild E t n ty ps
  | .binOp .. => vgen E t n o
  | .unOp .. => vgen E t n o
  | .convert .. => vgen E t n o
  | .call c => match c.callee with
    | .builtin .len => match vlen E t n c with
      | some v => some v
      | none => vgen E t n o
    | .builtin .cap => match vlen E t n c with
      | some v => some v
      | none => vgen E t n o
    | .builtin .min => vgen E t n o
    | .builtin .max => vgen E t n o
    | .builtin .real => vgen E t n o
    | .builtin .imag => vgen E t n o
    | .builtin .complex => vgen E t n o
    | _ => none
  | _ => none

theorem vpure_sound (ht : TR σ t n a.tmps) (hG : GR E σ) {o : Oper} {v : V} (e : vpure E t n o = some v) : ∃ v', Ans E.P a.eval o v' ∧ RT σ v v' := by
  unfold vpure at e
  split at e
  · rename_i x ho; exact ⟨a.eval x, fun w => by simp [execOp, ho], ev_rel ht hG e⟩
  · rename_i x ho; exact ⟨a.eval x, fun w => by simp [execOp, ho], ev_rel ht hG e⟩
  · rename_i c x y ho; exact vpick_sound ht hG ho e
  · rename_i x i ho; exact vextract_sound ht hG ho e
  · rename_i f fi cs ho; exact vmakeFunc_sound ht hG ho e
  · rename_i x ho; exact vnilCheck_sound ht hG ho e
  · rename_i s x f ho; exact vfieldAddr_sound ht hG ho e
  · rename_i xt x ix ho; exact vindexAddr_sound ht hG ho e
  · rename_i ty x ho; exact vs2ap_sound ht hG ho e
  · rename_i xt x f ho; exact vfield_sound ht hG ho e
  · rename_i xt x ix ho
    split at e
    · rename_i v1 h1; cases e; exact vindex_sound ht hG ho h1
    · exact vgen_sound ht hG e
  · rename_i xt x lo hi mx ho
    split at e
    · rename_i v1 h1; cases e; exact vslice_sound ht hG ho h1
    · exact vgen_sound ht hG e
  · rename_i ty ps ho; exact vbuild_sound ht hG ho e
  · exact vgen_sound ht hG e
  · exact vgen_sound ht hG e
  · exact vgen_sound ht hG e
  · rename_i c ho
    split at e
    · split at e
      · rename_i v1 h1; cases e; exact vlen_sound ht hG ho h1
      · exact vgen_sound ht hG e
    · split at e
      · rename_i v1 h1; cases e; exact vlen_sound ht hG ho h1
      · exact vgen_sound ht hG e
    · exact vgen_sound ht hG e
    · exact vgen_sound ht hG e
    · exact vgen_sound ht hG e
    · exact vgen_sound ht hG e
    · exact vgen_sound ht hG e
    · cases e
  · cases e

/-- Operations that read memory. -/
def vread (E : Env) (t : Tr V) (n : Nat) (h : Hp) (o : Oper) : Option V :=
  match o.op with
  | .load ty x => vload E t n h ty x
  | .lookup xt x ix ok => vlookup E t n h xt x ix ok
  | .convert src dst x => vb2s E t n h src dst x
  | _ => none
theorem vread_sound (r : WR E.R w0 σ h w) (ht : TR σ t n a.tmps) (hG : GR E σ) {o : Oper} {v : V} (e : vread E t n h o = some v) : ∃ v', (execOp a.eval o).run E.P w = .ok (.value v') w ∧ RT σ v v' := by
  unfold vread at e
  split at e
  · rename_i ty x ho; exact vload_sound r ht hG ho e
  · rename_i xt x ix ok ho; exact vlookup_sound r ht hG ho e
  · rename_i src dst x ho; exact vb2s_sound r ht hG ho e
  · cases e

/-- Operations that write memory, or make it. -/
def veff (E : Env) (t : Tr V) (n : Nat) (h : Hp) (o : Oper) : Option (V × Hp) :=
  match o.op with
  | .alloc e => valloc E h e
  | .box e x => vbox E t n h e x
  | .store ty x y => vstore E t n h ty x y
  | .buildSlice ty len ps => vbuildSlice E t n h ty len ps
  | .makeSlice ty l c => vmakeSlice E t n h ty l c
  | .makeMap ty x => vmakeMap E t n h ty x
  | .mapUpdate mt x ix y => vmapSet E t n h mt x ix y
  | .insert mt x ix y => vmapSet E t n h mt x ix y
  | .range xt x => vrange E t n h xt x
  | .next x isS => vnext E t n h x isS
  | .convert src dst x => match vs2b E t n h src dst x with
    | some r => some r
    | none => vs2s E t n h src dst x
  | .call c => match c.callee with
    | .builtin .append => match vappend E t n h c with
      | some r => some r
      | none => vgrow E t n h c
    | .builtin .copy => vcopy E t n h c
    | _ => none
  | _ => none
theorem veff_sound (r : WR E.R w0 σ h w) (ht : TR σ t n a.tmps) (hG : GR E σ) {o : Oper} {v : V} (e : veff E t n h o = some (v, h')) : Eff E w0 a.eval o σ w v h' := by
  unfold veff at e
  split at e
  · rename_i el ho; exact valloc_sound r ho e
  · rename_i el x ho; exact vbox_sound r ht hG ho e
  · rename_i ty x y ho; exact vstore_sound r ht hG ho e
  · rename_i ty len ps ho; exact vbuildSlice_sound r ht hG ho e
  · rename_i ty l c ho; exact vmakeSlice_sound r ht hG ho e
  · rename_i ty x ho; exact vmakeMap_sound r ht hG ho e
  · rename_i mt x ix y ho; exact vmapSet_sound r ht hG (.inl ho) e
  · rename_i mt x ix y ho; exact vmapSet_sound r ht hG (.inr ho) e
  · rename_i xt x ho; exact vrange_sound r ht hG ho e
  · rename_i x isS ho; exact vnext_sound r ht hG ho e
  · rename_i src dst x ho
    split at e
    · rename_i r1 h1; cases e; exact vs2b_sound r ht hG ho h1
    · exact vs2s_sound r ht hG ho e
  · rename_i c ho
    split at e
    · split at e
      · rename_i r1 h1; cases e; exact vappend_sound r ht hG ho h1
      · exact vgrow_sound r ht hG ho e
    · exact vcopy_sound r ht hG ho e
    · cases e
  · cases e

end
end
end Go.Proofs.YtmlfcaaecofnjaaGreatDoor.SM
