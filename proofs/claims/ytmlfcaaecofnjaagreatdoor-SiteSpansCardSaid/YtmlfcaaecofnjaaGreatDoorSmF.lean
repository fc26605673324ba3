/- Statements, functions, rounds: the evaluator's laws. -/
import Derived.Test.YtmlfcaaecofnjaaGreatDoorSmC
import Derived.Test.YtmlfcaaecofnjaaGreatDoorSmE
set_option linter.unusedVariables false
set_option linter.unusedSimpArgs false
namespace Go.Proofs.YtmlfcaaecofnjaaGreatDoor.SM
open Go Go.RowKit
noncomputable section

section
variable {P : Program} {b : Frame} {a : Act} {k : List Item} {cs : List Frame} {w : World} {F : Fence} {n : Nat} {Q : Exit → Act → World → Prop}

theorem stepR_scope {c : Code} : step P (lone (b.atR a (.code (.scope c) :: k)) cs w) = .next (lone (b.atR a (.code c :: .inScope c :: k)) cs w) :=
  step_lone_go (by simp [stepG, stepG.exec, Frame.atR])
theorem stepR_inScope {c : Code} : step P (lone (b.atR a (.inScope c :: k)) cs w) = .next (lone (b.atR a k) cs w) :=
  step_lone_go (by simp [stepG, stepG.exec, Frame.atR])

def noGoto (Q : Exit → Act → World → Prop) : Exit → Act → World → Prop
  | .goto _, _, _ => False
  | e, a, w => Q e a w

theorem wpIn_scope {c : Code} (h : c.wpIn F n P (noGoto Q) a w) : (Code.scope c).wpIn F n P Q a w := by
  intro b k cs hro hb hr
  have h0 : (lone (b.atR a (.code (.scope c) :: k)) cs w).fenced P F := fenced_calm hb hr rfl
  obtain ⟨e, a₁, w₁, hq, harr⟩ := h b (.inScope c :: k) cs hro hb hr
  cases e with
  | normal => exact ⟨.normal, a₁, w₁, hq, .head h0 stepR_scope (StepsIn.trans harr (.one (fenced_calm hb hr rfl) stepR_inScope))⟩
  | exit id =>
    have hx : exitTo id (.inScope c :: k) = exitTo id k := by simp [exitTo]
    exact ⟨.exit id, a₁, w₁, hq, fun k' hk => .head h0 stepR_scope (harr.1 k' (by rw [hx]; exact hk)),
      fun hr' hk => let ⟨k₁, h1, h2⟩ := harr.2 hr' (by rw [hx]; exact hk); ⟨k₁, h1, .head h0 stepR_scope h2⟩⟩
  | goto l => exact hq.elim
  | ret => exact ⟨_, a₁, w₁, hq, .of_steps (.one h0 stepR_scope) harr⟩
  | panic ch => exact ⟨_, a₁, w₁, hq, .of_steps (.one h0 stepR_scope) harr⟩
  | outgrown => exact ⟨_, a₁, w₁, hq, .of_steps (.one h0 stepR_scope) harr⟩

end

def Xt.toExit : Xt → Exit
  | .norm => .normal
  | .exit id => .exit id
  | .ret => .ret

section
variable {E : Env} {w0 : World} {call : Inv}

theorem RT.fnv {σ : Ren} {g : FuncId} {fi cs : List V} {v : Value} (h : RT σ (.fn g fi cs) v) : ∃ fi' cs', F2 (RL σ) fi fi' ∧ F2 (RL σ) cs cs' ∧ v = .func (.func g) ⟨fi'⟩ ⟨cs'⟩ := h.fn_inv

theorem vrangeFunc_wp (hc : CallOK E w0 call) {σ : Ren} {st st' : St} {a : Act} {w : World} {f : Operand} {ps : Array Tmp} {as bd : Code} {x : Xt} {m : Nat} {Q : Exit → Act → World → Prop}
    (e : vrangeFunc E call f ps as bd st = some (x, st')) (s : SR E w0 σ st a w) (hQ : ∀ (σ' : Ren) (a' : Act) (w' : World), Ren.le σ σ' → SR E w0 σ' st' a' w' → Q x.toExit a' w') : (Code.rangeFunc f ps as bd).wpIn (FF none) m E.P Q a w := by
  unfold vrangeFunc at e
  split at e
  · rename_i g fi cs hf
    split at e
    · rename_i v h hcall
      split at e
      · rename_i sl pend t n qs as' bd' D hat
        cases hbz : isBusy sl with
        | true => rw [hbz] at e; cases e
        | false =>
        rw [hbz] at e
        simp only [cond_false] at e
        cases hG : Nat.ble E.R (st.h.n + 1) with
        | false => rw [hG] at e; cases e
        | true =>
        rw [hG] at e
        simp only [cond_true] at e
        obtain ⟨fi', cs', e1, e2, e3⟩ := (ev_rel s.tr s.gr hf).fn_inv
        -- the block and the record
        obtain ⟨r1, hle1⟩ := s.wr.new 0 (o := .dfr) (o' := .deferred (some [])) .dfr (fun _ _ _ h => by cases h)
        have hD1 : (σ.upd st.h.n w.heap.size 0) st.h.n = some w.heap.size := Ren.upd_same _ _ _ _
        have hle2 : Ren.le (σ.upd st.h.n w.heap.size 0) ((σ.upd st.h.n w.heap.size 0).upd (st.h.new .dfr).n (w.alloc (.deferred (some []))).heap.size 0) := Ren.le_upd _ _ (r1.fresh _ (Nat.le_refl _))
        refine wpIn_rangeFunc fun fn _ => ?_
        obtain ⟨r2, _⟩ := r1.new 0 (o := .loop .ready none st.t st.n ps.toList as bd st.h.n)
          (o' := .loop { state := .ready, pending := none, fn := fn, tmps := a.tmps, params := ps, assign := as, body := bd, defers := w.heap.size })
          (.loop ((s.tr.mono hle1).mono hle2) (hle2 _ _ hD1).1) (fun _ _ _ h => by cases h)
        have hle : Ren.le σ _ := Ren.le_trans hle1 hle2
        have hl : ((σ.upd st.h.n w.heap.size 0).upd (st.h.new .dfr).n (w.alloc (.deferred (some []))).heap.size 0) (st.h.n + 1) = some (w.heap.size + 1) := by
          have := Ren.upd_same (σ.upd st.h.n w.heap.size 0) (st.h.new .dfr).n (w.alloc (.deferred (some []))).heap.size 0
          rw [World.size_alloc] at this
          rw [World.size_alloc]
          exact this
        have hargs : F2 (RV ((σ.upd st.h.n w.heap.size 0).upd (st.h.new .dfr).n (w.alloc (.deferred (some []))).heap.size 0)) (fi ++ .yl (st.h.n + 1) :: cs) (fi' ++ [Value.func (.yield (w.heap.size + 1)) #[] #[]] ++ cs') := by
          have h1 := (e1.mono fun _ _ x => x.mono hle).leafV
          have h2 := (e2.mono fun _ _ x => x.mono hle).leafV
          have h3 : F2 (RV ((σ.upd st.h.n w.heap.size 0).upd (st.h.new .dfr).n (w.alloc (.deferred (some []))).heap.size 0)) [V.yl (st.h.n + 1)] [Value.func (.yield (w.heap.size + 1)) #[] #[]] := .cons (.cell (.leaf (.yl hl))) .nil
          have := (h1.append h3).append h2
          simpa using this
        obtain ⟨q1, q2⟩ := hc.fn _ _ _ _ _ hcall _ _ _ r2 (s.gr.mono hle) hargs
        refine ⟨w.heap.size + 1, [{ target := .collected w.heap.size, args := #[] }], (w.alloc (.deferred (some []))).alloc (.loop { state := .ready, pending := none, fn := fn, tmps := a.tmps, params := ps, assign := as, body := bd, defers := w.heap.size }), { target := .fn (.func g) ⟨cs'⟩, args := ⟨fi' ++ [Value.func (.yield (w.heap.size + 1)) #[] #[]]⟩ }, (w.alloc (.deferred (some []))).alloc (.loop { state := .ready, pending := none, fn := fn, tmps := a.tmps, params := ps, assign := as, body := bd, defers := w.heap.size }), g, ⟨fi' ++ [Value.func (.yield (w.heap.size + 1)) #[] #[]] ++ cs'⟩, (w.alloc (.deferred (some []))).alloc (.loop { state := .ready, pending := none, fn := fn, tmps := a.tmps, params := ps, assign := as, body := bd, defers := w.heap.size }),
          run_enterLoop_outer fn a.tmps ps as bd, ?_, fun _ _ => trivial, ?_, (fun h => by cases h), ?_⟩
        · have hmap : (#[Operand.const (.func (.yield (w.heap.size + 1)) #[] #[])]).map a.eval = #[Value.func (.yield (w.heap.size + 1)) #[] #[]] := by
            simp [Act.eval]
          simp only [resolve, rangeCall, hmap, e3, Deferred.ofValue]
          simp
        · have harr : ((⟨fi' ++ [Value.func (.yield (w.heap.size + 1)) #[] #[]]⟩ : Array Value) ++ (⟨cs'⟩ : Array Value)) = ⟨fi' ++ [Value.func (.yield (w.heap.size + 1)) #[] #[]] ++ cs'⟩ := by
            apply Array.ext'; simp
          simp only [invoke, harr]
          exact q1
        · refine CallsIn.mono (F := FF none) (q2 (m - 1)) ?_
          rintro en w' ⟨v', σ', rfl, k1, k2, _⟩
          have hl' := (k1 _ _ hl).1
          obtain ⟨o', g1, g2⟩ := k2.obj _ _ _ hl' hat rfl
          cases g2 with
          | @loop _ _ _ _ _ _ _ _ d2 fn2 tmps2 ht hd =>
          have hnb : sl ≠ .busy := fun h => by rw [h] at hbz; cases hbz
          have hle' : Ren.le σ σ' := Ren.le_trans hle k1
          have hw' := k2.put (o := .loop .exhausted pend t n qs as' bd' D) (o' := .loop { state := .exhausted, pending := pend, fn := fn2, tmps := tmps2, params := ⟨qs⟩, assign := as', body := bd', defers := d2 }) hl' hat rfl (Nat.le_of_ble_eq_true hG) (.loop ht hd) (fun _ _ _ h => by cases h)
          have hmr : F2 (fun (D : Nat) (d : Deferred) => ∃ D', σ' D = some D' ∧ d = { target := .collected D', args := #[] }) (st.h.n :: st.d) ([{ target := .collected w.heap.size, args := #[] }] ++ a.defers) :=
            .cons ⟨w.heap.size, (k1 _ _ (hle2 _ _ hD1).1).1, rfl⟩ (s.mr.mono fun D d ⟨D', h1, h2⟩ => ⟨D', (hle' _ _ h1).1, h2⟩)
          refine ⟨_, _, run_endLoop g1 hnb, ?_⟩
          cases pend with
          | none =>
            cases e
            exact hQ σ' _ _ hle' ⟨hw', s.tr.mono hle', hmr, s.gr.mono hle'⟩
          | some c =>
            simp only at e ⊢
            split at e
            · rename_i x1 hj
              cases e
              unfold vjump at hj
              split at hj
              · cases hj; exact wpIn_ret (hQ σ' _ _ hle' ⟨hw', s.tr.mono hle', hmr, s.gr.mono hle'⟩)
              · cases hj; exact wpIn_exit (hQ σ' _ _ hle' ⟨hw', s.tr.mono hle', hmr, s.gr.mono hle'⟩)
              · cases hj
            · cases e
      · cases e
    · cases e
  · cases e


def CodeOK (E : Env) (w0 : World) (call : Inv) (out : Bool) (ro : Option Nat) (k : Nat) : Prop :=
  ∀ (c : Code) (σ : Ren) (st st' : St) (x : Xt) (a : Act) (w : World) (m : Nat) (Q : Exit → Act → World → Prop), vcode E call out k c st = some (x, st') → SR E w0 σ st a w →
    (∀ (σ' : Ren) (a' : Act) (w' : World), Ren.le σ σ' → SR E w0 σ' st' a' w' → Q x.toExit a' w') → c.wpIn (FF ro) m E.P Q a w

theorem loop_key {out : Bool} {ro : Option Nat} {c : Code} {m : Nat} {Q : Exit → Act → World → Prop} {b : Frame} {kk : List Item} {cs : List Frame} (hro : b.roundOf = (FF ro).round) (hb : (FF ro).fn b.fn) (hr : (FF ro).room (cs.length + 1 + m)) :
    ∀ (j : Nat), (∀ i, i < j → CodeOK E w0 call out ro i) → ∀ (σ : Ren) (st st' : St) (x : Xt) (a : Act) (w : World), vcode E call out j (.loop c) st = some (x, st') → SR E w0 σ st a w →
    (∀ (σ' : Ren) (a' : Act) (w' : World), Ren.le σ σ' → SR E w0 σ' st' a' w' → Q x.toExit a' w') →
    ∃ e a' w', Q e a' w' ∧ ArrivesIn (Machine.fenced E.P (FF ro)) E.P (lone (b.atR a (.code c :: .inLoop c :: kk)) cs w) b kk cs e a' w' := by
  intro j
  induction j with
  | zero => intro _ σ st st' x a w e; cases e
  | succ j ih =>
    intro hK σ st st' x a w e s hQ
    simp only [vcode_succ, vstep] at e
    split at e
    · cases e
    · rename_i st1 h1
      obtain ⟨en, a₁, w₁, hq, harr⟩ := hK j (by omega) c σ st st1 .norm a w m
        (Exit.then (fun a' w' => ∃ σ', Ren.le σ σ' ∧ SR E w0 σ' st1 a' w') (fun _ _ _ => False)) h1 s (fun σ' a' w' h1 h2 => ⟨σ', h1, h2⟩) b (.inLoop c :: kk) cs hro hb hr
      cases en with
      | normal =>
        obtain ⟨σ1, hle, hs1⟩ := hq
        obtain ⟨e₂, a₂, w₂, hq₂, harr₂⟩ := ih (fun i hi => hK i (by omega)) σ1 st1 st' x a₁ w₁ e hs1 fun σ' a' w' h1 h2 => hQ σ' a' w' (Ren.le_trans hle h1) h2
        exact ⟨e₂, a₂, w₂, hq₂, .of_steps (StepsIn.trans harr (.one (fenced_calm hb hr rfl) stepR_inLoop)) harr₂⟩
      | _ => exact hq.elim
    · rename_i e1 st1 hne h1
      cases e
      obtain ⟨en, a₁, w₁, hq, harr⟩ := hK j (by omega) c σ st st' x a w m (fun e a w => e ≠ .normal ∧ Q e a w) h1 s (fun σ' a' w' h1 h2 => ⟨by
        cases x with
        | norm => exact absurd rfl hne
        | exit id => exact fun h => (by cases h)
        | ret => exact fun h => (by cases h), hQ σ' a' w' h1 h2⟩) b (.inLoop c :: kk) cs hro hb hr
      cases en with
      | normal => exact absurd rfl hq.1
      | exit id => exact ⟨_, a₁, w₁, hq.2, .pass (x := .inLoop c) rfl (fun _ _ => .inl (by simp)) harr⟩
      | goto l => exact ⟨_, a₁, w₁, hq.2, .pass (x := .inLoop c) rfl (fun _ _ => .inl (by simp)) harr⟩
      | ret => exact ⟨_, a₁, w₁, hq.2, .pass (x := .inLoop c) rfl (fun _ _ => .inl (by simp)) harr⟩
      | panic ch => exact ⟨_, a₁, w₁, hq.2, .pass (x := .inLoop c) rfl (fun _ _ => .inl (by simp)) harr⟩
      | outgrown => exact ⟨_, a₁, w₁, hq.2, .pass (x := .inLoop c) rfl (fun _ _ => .inl (by simp)) harr⟩

variable (hm : E.P.follows .mixedOrders = true) (hc : CallOK E w0 call)
include hm hc

theorem vcode_wp {out : Bool} {ro : Option Nat} (hout : out = true → ro = none) : ∀ k, CodeOK E w0 call out ro k := by
  intro k
  induction k using Nat.strongRecOn with
  | _ k ih =>
    intro c σ st st' x a w m Q e s hQ
    cases k with
    | zero => cases e
    | succ k =>
      have ihk := ih k (by omega)
      cases c with
      | skip => simp only [vcode_succ, vstep] at e; cases e; exact wpIn_skip (hQ σ a w (Ren.le_refl _) s)
      | label l => simp only [vcode_succ, vstep] at e; cases e; exact wpIn_label (hQ σ a w (Ren.le_refl _) s)
      | ret => simp only [vcode_succ, vstep] at e; cases e; exact wpIn_ret (hQ σ a w (Ren.le_refl _) s)
      | exit id => simp only [vcode_succ, vstep] at e; cases e; exact wpIn_exit (hQ σ a w (Ren.le_refl _) s)
      | seq y z =>
        simp only [vcode_succ, vstep] at e
        split at e
        · cases e
        · rename_i s1 h1
          refine wpIn_seq (ihk y σ st s1 .norm a w m _ h1 s fun σ' a' w' hle hs => ?_)
          exact ihk z σ' s1 st' x a' w' m Q e hs fun σ'' a'' w'' hle' hs' => hQ σ'' a'' w'' (Ren.le_trans hle hle') hs'
        · rename_i e1 s1 hne h1
          cases e
          refine wpIn_seq (ihk y σ st st' x a w m _ h1 s fun σ' a' w' hle hs => ?_)
          cases x with
          | norm => exact absurd rfl hne
          | exit id => exact hQ σ' a' w' hle hs
          | ret => exact hQ σ' a' w' hle hs
      | cond c y z =>
        simp only [vcode_succ, vstep] at e
        split at e
        · rename_i hev
          exact wpIn_cond_true (by have := (ev_rel s.tr s.gr hev).sc_inv; exact this) (ihk y σ st st' x a w m Q e s hQ)
        · rename_i hev
          exact wpIn_cond_false (by have := (ev_rel s.tr s.gr hev).sc_inv; exact this) (ihk z σ st st' x a w m Q e s hQ)
        · cases e
      | block id y =>
        simp only [vcode_succ, vstep] at e
        split at e
        · cases e
        · rename_i i s1 h1
          cases hb : Nat.beq i id with
          | true =>
            rw [hb] at e; cases e
            have := beq_iff.1 hb
            subst this
            refine wpIn_block (ihk y σ st st' (.exit i) a w m _ h1 s fun σ' a' w' hle hs => ?_)
            simp only [Xt.toExit, Exit.inBlock, if_true]
            exact hQ σ' a' w' hle hs
          | false =>
            rw [hb] at e; cases e
            have hne : ¬ i = id := fun h => by rw [h] at hb; simp at hb
            refine wpIn_block (ihk y σ st st' (.exit i) a w m _ h1 s fun σ' a' w' hle hs => ?_)
            simp only [Xt.toExit, Exit.inBlock, if_neg hne]
            exact hQ σ' a' w' hle hs
        · rename_i e1 s1 hne h1
          cases e
          refine wpIn_block (ihk y σ st st' x a w m _ h1 s fun σ' a' w' hle hs => ?_)
          cases x with
          | norm => exact hQ σ' a' w' hle hs
          | exit id => exact absurd rfl (hne id)
          | ret => exact hQ σ' a' w' hle hs
      | loop y =>
        intro b kk cs hro hb hr
        obtain ⟨en, a', w', hq, harr⟩ := loop_key hro hb hr (k + 1) (fun i hi => ih i hi) σ st st' x a w e s hQ
        exact ⟨en, a', w', hq, .of_steps (.one (fenced_calm hb hr rfl) stepR_loop) harr⟩
      | scope y =>
        simp only [vcode_succ, vstep] at e
        refine wpIn_scope (ihk y σ st st' x a w m _ e s fun σ' a' w' hle hs => ?_)
        cases x <;> exact hQ σ' a' w' hle hs
      | region id ops d =>
        simp only [vcode_succ, vstep] at e
        split at e
        · rename_i s1 h1
          cases e
          cases d with
          | true => exact vdraw_wp hm hc h1 s hQ
          | false =>
            refine wpIn_region ?_
            rw [List.range_eq_range', ← Array.length_toList]
            exact vops_wp hc ops.toList 0 (fun j => by rw [Nat.zero_add, Array.getElem?_toList]) h1 s hQ
        · cases e
      | rangeFunc f ps as bd =>
        simp only [vcode_succ, vstep] at e
        cases out with
        | false => cases e
        | true =>
          have := hout rfl
          subst this
          exact vrangeFunc_wp hc e s hQ
      | _ => simp only [vcode_succ, vstep] at e; cases e
end
end
end Go.Proofs.YtmlfcaaecofnjaaGreatDoor.SM
