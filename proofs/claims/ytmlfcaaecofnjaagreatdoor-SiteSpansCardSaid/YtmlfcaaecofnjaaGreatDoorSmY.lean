/- Rounds and ranges over a function, by symbolic runs. -/
import Derived.Test.YtmlfcaaecofnjaaGreatDoorSmX
set_option linter.unusedVariables false
set_option linter.unusedSimpArgs false
namespace Go.Proofs.YtmlfcaaecofnjaaGreatDoor.SM
open Go Go.RowKit
noncomputable section

/-- A round whose two parts run so. -/
theorem YlOK.of_tri {E : Env} {w0 : World} {l : Nat} {args : List V} {h : Hp} {pend pend1 pend3 : Option Code} {t t1 t2 t3 : Tr V} {n n2 n3 : Nat} {ps ps2 ps3 : List Tmp} {as bd as2 bd2 as3 bd3 : Code} {D D2 D3 : Nat} {s0 s3 : LoopState} {s1 u : St}
    (hat : h.at_ l = some (.loop s0 pend t n ps as bd D)) (hG : E.R ≤ l) (hasg : vassign t n ps args = some t1) (ha : Tri E w0 h.n false as ⟨t1, n, h, []⟩ .norm s1) (hat1 : s1.h.at_ l = some (.loop .ready pend1 t2 n2 ps2 as2 bd2 D2))
    (hb : Tri E w0 h.n false bd { s1 with h := s1.h.put l (.loop .busy pend1 t2 n2 ps2 as2 bd2 D2) } .norm u) (hat3 : u.h.at_ l = some (.loop s3 pend3 t3 n3 ps3 as3 bd3 D3)) :
    YlOK E w0 l args h (.sc (.bool true)) (u.h.put l (.loop .ready none t3 n3 ps3 as3 bd3 D3)) := by
  intro σ w args' r g hargs l' hl
  obtain ⟨o', g1, g2⟩ := r.obj l l' _ hl hat rfl
  cases g2 with
  | @loop _ _ _ _ _ _ _ _ d2 fn2 tmps2 ht hd =>
  obtain ⟨hlen, hTR⟩ := vassign_rel hasg ht hargs
  have hrun := run_yield (P := E.P) (args := ⟨args'⟩) g1 (by simpa using hlen.symm)
  refine ⟨_, _, _, _, hrun, fun m => ?_⟩
  have htm : ((⟨ps⟩ : Array Tmp).zip (⟨args'⟩ : Array Value)).foldl (fun tmps (t, a) => tmps.setIfInBounds t a) tmps2 = (ps.zip args').foldl (fun tmps (x : Tmp × Value) => tmps.setIfInBounds x.1 x.2) tmps2 := by
    simp [← Array.foldl_toList]
  simp only [htm]
  have hsr : SR E w0 σ ⟨t1, n, h, []⟩ { tmps := (ps.zip args').foldl (fun tmps (x : Tmp × Value) => tmps.setIfInBounds x.1 x.2) tmps2, defers := [] } w := ⟨r, hTR, .nil, g⟩
  refine roundIn_of_wpIn (F := Fence.wide) (n := m) trivial ?_
  refine ha (some l') (fun h => by cases h) σ _ w m _ hsr fun σ1 a1 w1 hle1 sr1 => ?_
  have hl1 := (hle1 _ _ (r.lt hl) hl).1
  obtain ⟨o1, k1, k2⟩ := sr1.wr.obj l l' _ hl1 hat1 rfl
  cases k2 with
  | @loop _ _ _ _ _ _ _ _ d3 fn3 tmps3 ht3 hd3 =>
  have hw2 := sr1.wr.put (o := .loop .busy pend1 t2 n2 ps2 as2 bd2 D2) (o' := .loop { state := .busy, pending := pend1, fn := fn3, tmps := tmps3, params := ⟨ps2⟩, assign := as2, body := bd2, defers := d3 }) hl1 hat1 rfl hG (.loop ht3 hd3) (fun _ _ _ h => by cases h)
  refine ⟨_, run_beginRound k1 rfl, ?_⟩
  refine hb (some l') (fun h => by cases h) σ1 a1 _ m _ ⟨hw2, sr1.tr, sr1.mr, sr1.gr⟩ fun σ2 a2 w2 hle2 sr2 => ?_
  have hleB := Ren.leB_trans hle1 hle2
  have hl2 := (hleB _ _ (r.lt hl) hl).1
  obtain ⟨o2, k3, k4⟩ := sr2.wr.obj l l' _ hl2 hat3 rfl
  cases k4 with
  | @loop _ _ _ _ _ _ _ _ d4 fn4 tmps4 ht4 hd4 =>
  have hle : Ren.le σ σ2 := fun i b e => hleB i b (r.lt e) e
  have fin : ∀ (st : LoopState) (pd : Option Code), WR E.R w0 σ2 (u.h.put l (.loop st pd t3 n3 ps3 as3 bd3 D3)) (w2.putObj l' (.loop { state := st, pending := pd, fn := fn4, tmps := tmps4, params := ⟨ps3⟩, assign := as3, body := bd3, defers := d4 })) := fun st pd =>
    sr2.wr.put hl2 hat3 rfl hG (.loop ht4 hd4) (fun _ _ _ h => by cases h)
  exact ⟨_, _, run_endRound none k3, .bool true, σ2, rfl, hle, fin .ready none, .val (.cell (.leaf (.sc rfl)))⟩

/-- A round, by a script. -/
def syl (E : Env) (w0 : World) (S : Script) (l : Nat) (args : List V) (h : Hp) : Option (Hp × List Prop) :=
  match h.at_ l with
  | some (.loop _ _ t n ps as bd D) => match vassign t n ps args with
    | some t1 => match scode E w0 nocall S h.n false 1000 as ⟨t1, n, h, []⟩ with
      | some (.norm, s, C1) => match s.h.at_ l with
        | some (.loop .ready p t2 n2 ps2 as2 bd2 D2) => match scode E w0 nocall S h.n false 1000 bd { s with h := s.h.put l (.loop .busy p t2 n2 ps2 as2 bd2 D2) } with
          | some (.norm, u, C2) => match u.h.at_ l with
            | some (.loop _ _ t3 n3 ps3 as3 bd3 D3) => bif Nat.ble E.R l then some (u.h.put l (.loop .ready none t3 n3 ps3 as3 bd3 D3), C1 ++ C2) else none
            | _ => none
          | _ => none
        | _ => none
      | _ => none
    | none => none
  | _ => none
theorem YlOK.of_syl {E : Env} (hm : E.P.follows .mixedOrders = true) {w0 : World} {l : Nat} {args : List V} {h h' : Hp} (S : Script) (C : List Prop) (e : syl E w0 S l args h = some (h', C)) (hC : AllP C) : YlOK E w0 l args h (.sc (.bool true)) h' := by
  unfold syl at e
  split at e
  · rename_i s0 pend t n ps as bd D hat
    split at e
    · rename_i t1 hasg
      split at e
      · rename_i s1 C1 hs1
        split at e
        · rename_i p t2 n2 ps2 as2 bd2 D2 hat1
          split at e
          · rename_i u C2 hu
            split at e
            · rename_i s3 p3 t3 n3 ps3 as3 bd3 D3 hat3
              cases hG : Nat.ble E.R l with
              | false => rw [hG] at e; cases e
              | true =>
                rw [hG] at e
                cases e
                obtain ⟨k1, k2⟩ := AllP.app hC
                exact YlOK.of_tri hat (Nat.le_of_ble_eq_true hG) hasg (Tri.of_scode hm nocall_ok hs1 k1) hat1 (Tri.of_scode hm nocall_ok hu k2) hat3
            · cases e
          · cases e
        · cases e
      · cases e
    · cases e
  · cases e

open Classical in
/-- One call that is known. -/
def oneCall (g : FuncId) (args : List V) (h : Hp) (v : V) (h' : Hp) : Inv := fun tg as hh => match tg with
  | .fn f => if f = g ∧ as = args ∧ hh = h then some (v, h') else none
  | _ => none
theorem oneCall_ok {E : Env} {w0 : World} {g : FuncId} {args : List V} {h h' : Hp} {v : V} (ok : FnOK E w0 g args h v h') : CallOK E w0 (oneCall g args h v h') := by
  refine ⟨fun f as hh u hu e => ?_, fun _ _ _ _ _ e => (by cases e), fun _ _ _ _ _ _ e => (by cases e), fun _ _ _ _ _ _ _ e => (by cases e), fun _ _ _ _ _ _ _ _ e => (by cases e)⟩
  unfold oneCall at e
  simp only at e
  split at e
  · rename_i hc
    obtain ⟨rfl, rfl, rfl⟩ := hc
    cases e
    exact ok
  · cases e
/-- A range over a function that is known. -/
theorem Tri.rangeFn {E : Env} {w0 : World} {B : Nat} {f : Operand} {ps : Array Tmp} {as bd : Code} {st : St} {g : FuncId} {fi cs : List V} {v : V} {h' : Hp} {s : LoopState} {t : Tr V} {n : Nat} {qs : List Tmp} {as' bd' : Code} {D : Nat}
    (hf : ev E st.t st.n f = some (.fn g fi cs)) (ok : FnOK E w0 g (fi ++ .yl (st.h.n + 1) :: cs) ((st.h.new .dfr).new (.loop .ready none st.t st.n ps.toList as bd st.h.n)) v h') (hat : h'.at_ (st.h.n + 1) = some (.loop s none t n qs as' bd' D)) (hb : isBusy s = false) (hG : Nat.ble E.R (st.h.n + 1) = true) :
    Tri E w0 B true (.rangeFunc f ps as bd) st .norm { st with h := h'.put (st.h.n + 1) (.loop .exhausted none t n qs as' bd' D), d := st.h.n :: st.d } := by
  refine Tri.rangeFunc (oneCall_ok ok) rfl ?_
  have hone : oneCall g (fi ++ .yl (st.h.n + 1) :: cs) ((st.h.new .dfr).new (.loop .ready none st.t st.n ps.toList as bd st.h.n)) v h' (.fn g) (fi ++ .yl (st.h.n + 1) :: cs) ((st.h.new .dfr).new (.loop .ready none st.t st.n ps.toList as bd st.h.n)) = some (v, h') := by
    unfold oneCall
    exact if_pos ⟨rfl, rfl, rfl⟩
  unfold vrangeFunc
  rw [hf]
  simp only [hone, hat, hb, hG]
  rfl

/-- The range over a function of a body: its function, its parameters, its parts. -/
def findRf : Code → Option (Operand × Array Tmp × Code × Code)
  | .block _ x => findRf x
  | .seq x y => match findRf x with
    | some r => some r
    | none => findRf y
  | .cond _ x y => match findRf x with
    | some r => some r
    | none => findRf y
  | .loop x => findRf x
  | .scope x => findRf x
  | .rangeFunc f p a b => some (f, p, a, b)
  | _ => none
def rfAs (fn : Func) : Code := match findRf (Func.code fn) with
  | some (_, _, a, _) => a
  | none => .skip
def rfBd (fn : Func) : Code := match findRf (Func.code fn) with
  | some (_, _, _, b) => b
  | none => .skip
end
end Go.Proofs.YtmlfcaaecofnjaaGreatDoor.SM
