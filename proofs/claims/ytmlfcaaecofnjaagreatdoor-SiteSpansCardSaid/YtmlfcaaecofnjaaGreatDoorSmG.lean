/- Functions, rounds, and the whole evaluator. -/
import Derived.Test.YtmlfcaaecofnjaaGreatDoorSmF
set_option linter.unusedVariables false
set_option linter.unusedSimpArgs false
namespace Go.Proofs.YtmlfcaaecofnjaaGreatDoor.SM
open Go Go.RowKit
noncomputable section

section
variable {G : Nat} {w0 : World} {σ : Ren} {h : Hp} {w : World}

/-- A block that nothing of the evaluator's names is overwritten. -/
theorem WR.scrap (r : WR G w0 σ h w) {b : Nat} (hb : ∀ i o, σ i = some b → h.at_ i = some o → o.alive = false) (h0 : w0.heap.size ≤ b) (o' : Obj) : WR G w0 σ h (w.putObj b o') := by
  refine ⟨r.fresh, fun i c o ei hi ho => ?_, r.own, r.old, fun i c d e sp c' e' f ei hg hi hw => ?_, r.injG, below_putObj r.below h0, r.low, fun i c d e sp c' e' f ei hi hw => ?_⟩
  · obtain ⟨p, h1, h2⟩ := r.obj i c o ei hi ho
    refine ⟨p, ?_, h2⟩
    rw [World.putObj_heap_other (fun hcb => ?_)]
    · exact h1
    · rw [hb i o (by rw [← hcb]; exact ei) hi] at ho; cases ho
  · rw [World.putObj_heap_other (fun hcb => ?_)] at hw
    · exact r.calm i c d e sp c' e' f ei hg hi hw
    · have := hb i _ (by rw [← hcb]; exact ei) hi; cases this
  · rw [World.putObj_heap_other (fun hcb => ?_)] at hw
    · exact r.size i c d e sp c' e' f ei hi hw
    · have := hb i _ (by rw [← hcb]; exact ei) hi; cases this
end

section
variable {E : Env} {w0 : World}

theorem vmarks_leaves {fn : Func} {tmps : Array Value} {R : Ending → World → Prop} {σ : Ren} {n : Nat} : ∀ {ds : List Nat} {h h1 : Hp} {w : World} {defers : List Deferred}, vmarks E ds h = some h1 → WR E.R w0 σ h w →
    F2 (fun (D : Nat) (d : Deferred) => ∃ D', σ D = some D' ∧ d = { target := .collected D', args := #[] }) ds defers →
    (∀ w1, WR E.R w0 σ h1 w1 → ∃ v, (results fn tmps).run E.P w1 = .ok v w1 ∧ R (.returned v) w1) → LeavesInM Fence.wide n E.P fn tmps R defers .returning w := by
  intro ds
  induction ds with
  | nil =>
    intro h h1 w defers e r f hR
    cases e; cases f
    exact hR w r
  | cons D ds ih =>
    intro h h1 w defers e r f hR
    cases f with
    | cons hd ht =>
    obtain ⟨D', e1, rfl⟩ := hd
    simp only [vmarks] at e
    split at e
    · rename_i hat
      cases hg : Nat.ble E.R D with
      | false => rw [hg] at e; cases e
      | true =>
        rw [hg] at e
        simp only [cond_true] at e
        obtain ⟨o', g1, g2⟩ := r.obj D D' _ e1 hat rfl
        cases g2
        have hk := r.kill D
        have hs := hk.scrap (b := D') (fun i o hi ho => by
          rw [Hp.at_put] at ho
          by_cases hid : i = D
          · rw [if_pos hid] at ho; cases ho; rfl
          · rw [if_neg hid] at ho
            cases hal : o.alive with
            | false => rfl
            | true => exact absurd (r.inj i D D' o _ (.inr (Nat.le_of_ble_eq_true hg)) hi e1 ho hal hat rfl) hid) (r.own D D' e1 (Nat.le_of_ble_eq_true hg)) (.deferred none)
        refine ⟨by simp, .inl ⟨D', _, rfl, run_takeDeferred g1, ?_⟩⟩
        exact ih e hs ht hR
    · cases e

def rvf (tmps : Array Value) : ResultVar → Sem Value
  | .tmp t => pure (tmps.getD t undef)
  | .cell a t => do loadVar t (← asAddr (tmps.getD a undef))

omit E w0 in
theorem results_rvf (fn : Func) (tmps : Array Value) : results fn tmps = (do let vs ← fn.results.mapM (rvf tmps); pure (if h : vs.size = 1 then vs[0] else .tuple vs)) := by
  unfold results
  congr 1

theorem vresult_rel {σ : Ren} {t : Tr V} {n : Nat} {h : Hp} {w : World} {tmps : Array Value} (r : WR E.R w0 σ h w) (ht : TR σ t n tmps) {x : ResultVar} {v : V} (e : vresult E t n h x = some v) :
    ∃ v', (rvf tmps x).run E.P w = .ok v' w ∧ RV σ v v' := by
  cases x with
  | tmp a =>
    simp only [vresult] at e
    cases hlt : Nat.blt a n with
    | false => rw [hlt] at e; cases e
    | true =>
      rw [hlt] at e
      simp only [cond_true] at e
      split at e
      · rename_i u hu
        cases hn : notTup u with
        | false => rw [hn] at e; cases e
        | true =>
          rw [hn] at e
          cases e
          have := ht.at_ a (blt_iff.1 hlt)
          rw [hu] at this
          exact ⟨_, rfl, RT.of_notTup this hn⟩
      · cases e
  | cell a ty =>
    simp only [vresult, vloadTmp] at e
    cases hlt : Nat.blt a n with
    | false => rw [hlt] at e; cases e
    | true =>
      rw [hlt] at e
      simp only [cond_true] at e
      split at e
      · rename_i b off hx
        have hrel := ht.at_ a (blt_iff.1 hlt)
        rw [hx] at hrel
        obtain ⟨b', h1, h2⟩ := hrel.ptr_inv
        split at e
        · rename_i c el sp d ha hu
          cases hd : isAggD d with
          | true =>
            rw [hd] at e
            simp only [cond_true] at e
            split at e
            · rename_i inf hinf
              cases hb : Nat.ble (off + inf.size) c.length with
              | false => rw [hb] at e; cases e
              | true =>
                rw [hb] at e
                cases e
                obtain ⟨vs, e1, e2, e3⟩ := r.row h1 ha (Nat.le_of_ble_eq_true hb)
                refine ⟨.agg ⟨vs⟩, ?_, .agg e1⟩
                have hl : (loadCells ⟨b', off, none⟩ inf.size).run E.P w = .ok vs.toArray w := by
                  rw [← e2]; exact run_loadCells_list w _ vs fun j v hv => by rw [add_mk]; exact e3 j v hv
                simp only [rvf, h2, asAddr, Sem.run_bind, Sem.run_pure, Result.andThen_ok, loadVar, run_isAggD hu, hd, if_true, run_siz hinf, hl]
            · cases e
          | false =>
            rw [hd] at e
            simp only [cond_false] at e
            obtain ⟨c', f, g1, _, _, _, g4⟩ := r.cells h1 ha
            obtain ⟨v', e1, e2⟩ := g4 off v e
            refine ⟨v', ?_, .cell e2⟩
            have hc : w.cell? ⟨b', off, none⟩ = some v' := by rw [cell_of_row w b' off c' el f g1, e1]
            simp only [rvf, h2, asAddr, Sem.run_bind, Sem.run_pure, Result.andThen_ok, loadVar, run_isAggD hu, hd, Bool.false_eq_true, if_false, run_load, hc]
        · cases e
      · cases e

theorem vresults_run {σ : Ren} {t : Tr V} {n : Nat} {h : Hp} {w : World} {tmps : Array Value} (r : WR E.R w0 σ h w) (ht : TR σ t n tmps) : ∀ {l : List ResultVar} {vs : List V}, vresults E t n h l = some vs →
    ∃ vs', (l.mapM (rvf tmps)).run E.P w = .ok vs' w ∧ F2 (RV σ) vs vs' := by
  intro l
  induction l with
  | nil => intro vs e; cases e; exact ⟨[], by simp, .nil⟩
  | cons x l ih =>
    intro vs e
    simp only [vresults] at e
    split at e
    · rename_i v hv
      split at e
      · rename_i us hus
        cases e
        obtain ⟨v', h1, h2⟩ := vresult_rel r ht hv
        obtain ⟨us', h3, h4⟩ := ih hus
        refine ⟨v' :: us', ?_, .cons h2 h4⟩
        rw [List.mapM_cons, Sem.run_bind, h1, Result.andThen_ok, Sem.run_bind, h3, Result.andThen_ok, Sem.run_pure]
      · cases e
    · cases e

theorem vanswer_rel {σ : Ren} {t : Tr V} {n : Nat} {h : Hp} {w : World} {tmps : Array Value} {fn : Func} (r : WR E.R w0 σ h w) (ht : TR σ t n tmps) {vs : List V} (e : vresults E t n h fn.results.toList = some vs) :
    ∃ v', (results fn tmps).run E.P w = .ok v' w ∧ RT σ (vanswer vs) v' := by
  obtain ⟨vs', h1, h2⟩ := vresults_run r ht e
  have hrun : (results fn tmps).run E.P w = .ok (if h : vs'.toArray.size = 1 then vs'.toArray[0] else .tuple vs'.toArray) w := by
    rw [results_rvf, Array.mapM_eq_mapM_toList]
    rw [Sem.run_bind, Sem.run_map, h1]
    rfl
  refine ⟨_, hrun, ?_⟩
  cases h2 with
  | nil => exact .tup .nil
  | cons hx ht =>
    cases ht with
    | nil => exact .val hx
    | cons hy ht => exact .tup (.cons hx (.cons hy ht))

theorem vparams_get : ∀ (vs : List V) (t : Tr V) (i j : Nat), (vparams t i vs).get j = if i ≤ j ∧ j < i + vs.length then vs[j - i]? else t.get j := by
  intro vs
  induction vs with
  | nil => intro t i j; simp only [vparams, List.length_nil]; rw [if_neg (by omega)]
  | cons v r ih =>
    intro t i j
    simp only [vparams, ih, Tr.get_set, List.length_cons]
    by_cases h : j = i
    · subst h
      rw [if_neg (by omega), if_pos rfl, if_pos (by omega)]
      simp
    · by_cases h2 : i + 1 ≤ j ∧ j < i + 1 + r.length
      · rw [if_pos h2, if_pos (by omega)]
        rw [show j - i = (j - (i + 1)) + 1 by omega]
        simp
      · rw [if_neg h2, if_neg h, if_neg (by omega)]

theorem vparams_rel {σ : Ren} {args : List V} {args' : List Value} (h : F2 (RV σ) args args') (k : Nat) : TR σ (vparams .nil 0 args) (args.length + k) (⟨args'⟩ ++ Array.replicate k undef) := by
  have hl := h.length
  refine ⟨by simp [hl], fun i hi => ?_⟩
  rw [vparams_get]
  by_cases hlt : i < args.length
  · rw [if_pos (by omega), Nat.sub_zero]
    obtain ⟨v', e1, e2⟩ := h.at_ i _ (List.getElem?_eq_getElem hlt)
    rw [List.getElem?_eq_getElem hlt]
    have : (⟨args'⟩ ++ Array.replicate k undef : Array Value).getD i undef = v' := by
      rw [Array.getD_eq_getD_getElem?, Array.getElem?_append_left (by simp; omega)]
      have : (⟨args'⟩ : Array Value)[i]? = args'[i]? := by simp
      rw [this, e1]; rfl
    rw [this]
    exact .val e2
  · rw [if_neg (by omega), Tr.get_nil]
    have : (⟨args'⟩ ++ Array.replicate k undef : Array Value).getD i undef = undef := by
      rw [Array.getD_eq_getD_getElem?, Array.getElem?_append_right (by simp; omega), Array.getElem?_replicate]
      split <;> rfl
    rw [this]
    exact RT.undef _

theorem vassign_rel {σ : Ren} {n : Nat} : ∀ {ps : List Tmp} {t t1 : Tr V} {vs : List V} {vs' : List Value} {tmps : Array Value}, vassign t n ps vs = some t1 → TR σ t n tmps → F2 (RV σ) vs vs' →
    ps.length = vs'.length ∧ TR σ t1 n ((ps.zip vs').foldl (fun tmps (x : Tmp × Value) => tmps.setIfInBounds x.1 x.2) tmps) := by
  intro ps
  induction ps with
  | nil =>
    intro t t1 vs vs' tmps e ht h
    cases h with
    | nil => cases e; exact ⟨rfl, ht⟩
    | cons _ _ => cases e
  | cons p ps ih =>
    intro t t1 vs vs' tmps e ht h
    cases h with
    | nil => cases e
    | cons hv hr =>
      simp only [vassign] at e
      cases hlt : Nat.blt p n with
      | false => rw [hlt] at e; cases e
      | true =>
        rw [hlt] at e
        simp only [cond_true] at e
        obtain ⟨h1, h2⟩ := ih e (ht.set (.val hv) (blt_iff.1 hlt)) hr
        exact ⟨by simp [h1], h2⟩

variable {call : Inv} (hm : E.P.follows .mixedOrders = true) (hname : ∀ (f : Nat) (fn : Func), E.P.funcs[f]? = some fn → (fn.name == "runtime.NumGoroutine") = false) (hc : CallOK E w0 call)
include hm hc

theorem vround_ok {k l : Nat} {args : List V} {h h' : Hp} {v : V} (e : vround E call k l args h = some (v, h')) (hG : E.R ≤ l) {σ : Ren} {w : World} {args' : List Value} (r : WR E.R w0 σ h w) (g : GR E σ) (ha : F2 (RV σ) args args') {l' : Nat} (hl : σ l = some l') :
    ∃ (fn : FuncId) (tmps : Array Value) (as bd : Code), (Instr.yield l' ⟨args'⟩).run E.P w = .ok (.round l' fn tmps as bd) w ∧ ∀ m, RoundIn Fence.wide m E.P l' fn tmps as bd w (Post E w0 σ v h') := by
  unfold vround at e
  split at e
  · rename_i s0 pend t n ps as bd D hat
    split at e
    · cases e
    · rename_i t1 hasg
      obtain ⟨o', g1, g2⟩ := r.obj l l' _ hl hat rfl
      cases g2 with
      | @loop _ _ _ _ _ _ _ _ d2 fn2 tmps2 ht hd =>
      obtain ⟨hlen, hTR⟩ := vassign_rel hasg ht ha
      have hrun := run_yield (P := E.P) (args := ⟨args'⟩) g1 (by simpa using hlen.symm)
      refine ⟨_, _, _, _, hrun, fun m => ?_⟩
      have htm : ((⟨ps⟩ : Array Tmp).zip (⟨args'⟩ : Array Value)).foldl (fun tmps (t, a) => tmps.setIfInBounds t a) tmps2 = (ps.zip args').foldl (fun tmps (x : Tmp × Value) => tmps.setIfInBounds x.1 x.2) tmps2 := by
        simp [← Array.foldl_toList]
      simp only [htm]
      split at e
      · rename_i s1 hs1
        split at e
        · rename_i pend1 t2 n2 ps2 as2 bd2 D2 hat1
          split at e
          · cases e
          · rename_i x u hu
            split at e
            · rename_i s3 pend3 t3 n3 ps3 as3 bd3 D3 hat3
              have hsr : SR E w0 σ ⟨t1, n, h, []⟩ { tmps := (ps.zip args').foldl (fun tmps (x : Tmp × Value) => tmps.setIfInBounds x.1 x.2) tmps2, defers := [] } w := ⟨r, hTR, .nil, g⟩
              refine roundIn_of_wpIn (F := Fence.wide) (n := m) trivial ?_
              refine vcode_wp hm hc (out := false) (ro := some l') (fun h => by cases h) k as σ _ s1 .norm _ w m _ hs1 hsr fun σ1 a1 w1 hle1 sr1 => ?_
              have hl1 := (hle1 _ _ hl).1
              obtain ⟨o1, k1, k2⟩ := sr1.wr.obj l l' _ hl1 hat1 rfl
              cases k2 with
              | @loop _ _ _ _ _ _ _ _ d3 fn3 tmps3 ht3 hd3 =>
              have hw2 := sr1.wr.put (o := .loop .busy pend1 t2 n2 ps2 as2 bd2 D2) (o' := .loop { state := .busy, pending := pend1, fn := fn3, tmps := tmps3, params := ⟨ps2⟩, assign := as2, body := bd2, defers := d3 }) hl1 hat1 rfl hG (.loop ht3 hd3) (fun _ _ _ h => by cases h)
              refine ⟨_, run_beginRound k1 rfl, ?_⟩
              refine vcode_wp hm hc (out := false) (ro := some l') (fun h => by cases h) k bd σ1 { s1 with h := s1.h.put l (.loop .busy pend1 t2 n2 ps2 as2 bd2 D2) } u x a1 _ m _ hu ⟨hw2, sr1.tr, sr1.mr, sr1.gr⟩ fun σ2 a2 w2 hle2 sr2 => ?_
              have hl2 := (hle2 _ _ hl1).1
              obtain ⟨o2, k3, k4⟩ := sr2.wr.obj l l' _ hl2 hat3 rfl
              cases k4 with
              | @loop _ _ _ _ _ _ _ _ d4 fn4 tmps4 ht4 hd4 =>
              have hle : Ren.le σ σ2 := Ren.le_trans hle1 hle2
              have fin : ∀ (st : LoopState) (pd : Option Code), WR E.R w0 σ2 (u.h.put l (.loop st pd t3 n3 ps3 as3 bd3 D3)) (w2.putObj l' (.loop { state := st, pending := pd, fn := fn4, tmps := tmps4, params := ⟨ps3⟩, assign := as3, body := bd3, defers := d4 })) := fun st pd =>
                sr2.wr.put hl2 hat3 rfl hG (.loop ht4 hd4) (fun _ _ _ h => by cases h)
              cases x with
              | norm =>
                cases e
                exact ⟨_, _, run_endRound none k3, .bool true, σ2, rfl, hle, fin .ready none, .val (.cell (.leaf (.sc rfl)))⟩
              | ret =>
                cases e
                exact ⟨_, _, run_endRound (some .ret) k3, .bool false, σ2, rfl, hle, fin .done (some .ret), .val (.cell (.leaf (.sc rfl)))⟩
              | exit id =>
                cases e
                exact ⟨_, _, run_endRound (some (.exit id)) k3, .bool false, σ2, rfl, hle, fin .done (some (.exit id)), .val (.cell (.leaf (.sc rfl)))⟩
            · cases e
        · cases e
      · cases e
  · cases e

include hname
theorem vfun_ok {k : Nat} {f : FuncId} {args : List V} {h h' : Hp} {v : V} (e : vfun E call k f args h = some (v, h')) {σ : Ren} {w : World} {args' : List Value} (r : WR E.R w0 σ h w) (g : GR E σ) (ha : F2 (RV σ) args args') :
    (callFunc f ⟨args'⟩).run E.P w = .ok (.enter f ⟨args'⟩) w ∧ ∀ m, CallsIn Fence.wide m E.P f ⟨args'⟩ w (Post E w0 σ v h') := by
  unfold vfun at e
  split at e
  · cases e
  · rename_i fn hfn
    split at e
    · cases e
    · rename_i c hb
      refine ⟨?_, fun m => ?_⟩
      · have hn := hname f fn hfn
        simp [callFunc, hfn, hn, hb]
        simp at hn
        simp [hn]
      · have hsz : args'.length = args.length := ha.length.symm
        have hsr : SR E w0 σ ⟨vparams .nil 0 args, args.length + (fn.ntmps - args.length), h, []⟩ { tmps := (⟨args'⟩ : Array Value) ++ Array.replicate (fn.ntmps - (⟨args'⟩ : Array Value).size) undef, defers := [] } w := by
          have : (⟨args'⟩ : Array Value).size = args.length := by simpa using hsz
          rw [this]
          exact ⟨r, vparams_rel ha _, .nil, g⟩
        refine callsIn_of_wp_marks (F := Fence.wide) hfn hb trivial ?_
        have go : ∀ (x : Xt) (s : St), vcode E call true k c ⟨vparams .nil 0 args, args.length + (fn.ntmps - args.length), h, []⟩ = some (x, s) → (x = .norm ∨ x = .ret) →
            (match vmarks E s.d s.h with
              | some h1 => match vresults E s.t s.n h1 fn.results.toList with
                | some vs => some (vanswer vs, h1)
                | none => none
              | none => none) = some (v, h') →
            c.wpIn Fence.wide m E.P (bodyPostM Fence.wide m E.P fn (Post E w0 σ v h')) { tmps := (⟨args'⟩ : Array Value) ++ Array.replicate (fn.ntmps - (⟨args'⟩ : Array Value).size) undef, defers := [] } w := by
          intro x s hx hnr e
          split at e
          · rename_i h1 hmk
            split at e
            · rename_i vs hvs
              cases e
              refine vcode_wp hm hc (out := true) (ro := none) (fun _ => rfl) k c σ _ s x _ w m _ hx hsr fun σ1 a1 w1 hle sr => ?_
              have leave : LeavesInM Fence.wide m E.P fn a1.tmps (Post E w0 σ (vanswer vs) h') a1.defers .returning w1 :=
                vmarks_leaves hmk sr.wr sr.mr fun w2 r2 => by
                  obtain ⟨v', q1, q2⟩ := vanswer_rel (fn := fn) r2 sr.tr hvs
                  exact ⟨v', q1, v', σ1, rfl, hle, r2, q2⟩
              rcases hnr with rfl | rfl
              · exact leave
              · exact leave
            · cases e
          · cases e
        split at e
        · rename_i s hs; exact go .norm s hs (.inl rfl) e
        · rename_i s hs; exact go .ret s hs (.inr rfl) e
        · cases e
end

/-- **THE EVALUATOR.** -/
theorem vinv_ok {E : Env} {w0 : World} (hm : E.P.follows .mixedOrders = true) (hname : ∀ (f : Nat) (fn : Func), E.P.funcs[f]? = some fn → (fn.name == "runtime.NumGoroutine") = false) {ora : Nat → Inv → Inv} (hora : ∀ m call, CallOK E w0 call → CallOK E w0 (ora m call)) {k : Nat} :
    ∀ m, CallOK E w0 (vinv E ora k m) := by
  intro m
  induction m with
  | zero => exact ⟨fun _ _ _ _ _ e => (by cases e), fun _ _ _ _ _ e => (by cases e), fun _ _ _ _ _ _ e => (by cases e), fun _ _ _ _ _ _ _ e => (by cases e), fun _ _ _ _ _ _ _ _ e => (by cases e)⟩
  | succ m ih =>
    have hc := hora m _ ih
    refine ⟨fun f args h v h' e σ w args' r g ha => vfun_ok hm hname hc e r g ha, fun l args h v h' e σ w args' r g ha l' hl => ?_, fun _ _ _ _ _ _ e => (by cases e), fun _ _ _ _ _ _ _ e => (by cases e), fun _ _ _ _ _ _ _ _ e => (by cases e)⟩
    simp only [vinv] at e
    cases hG : Nat.ble E.R l with
    | false => rw [hG] at e; cases e
    | true =>
      rw [hG] at e
      exact vround_ok hm hc e (Nat.le_of_ble_eq_true hG) r g ha hl
end
end Go.Proofs.YtmlfcaaecofnjaaGreatDoor.SM
