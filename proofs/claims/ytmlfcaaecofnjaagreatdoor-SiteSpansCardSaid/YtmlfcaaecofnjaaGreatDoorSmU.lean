/- Statements by symbolic runs: from one state to another. -/
import Derived.Test.YtmlfcaaecofnjaaGreatDoorSmT
set_option linter.unusedVariables false
set_option linter.unusedSimpArgs false
namespace Go.Proofs.YtmlfcaaecofnjaaGreatDoor.SM
open Go Go.RowKit
noncomputable section

/-- The blocks below B stay what they are. -/
def Ren.leB (B : Nat) (σ τ : Ren) : Prop := ∀ i b, i < B → σ i = some b → τ i = some b ∧ τ.z i = σ.z i
theorem Ren.leB_refl (B : Nat) (σ : Ren) : Ren.leB B σ σ := fun _ _ _ h => ⟨h, rfl⟩
theorem Ren.leB_trans {B : Nat} {σ τ υ : Ren} (h : Ren.leB B σ τ) (k : Ren.leB B τ υ) : Ren.leB B σ υ := fun i b hi e => ⟨(k i b hi (h i b hi e).1).1, (k i b hi (h i b hi e).1).2.trans (h i b hi e).2⟩
theorem Ren.leB_of_le {B : Nat} {σ τ : Ren} (h : Ren.le σ τ) : Ren.leB B σ τ := fun i b _ e => h i b e

/-- The statement takes the machine from one state to another. -/
def Tri (E : Env) (w0 : World) (B : Nat) (out : Bool) (c : Code) (st : St) (q : Xt) (st' : St) : Prop :=
  ∀ (ro : Option Nat), (out = true → ro = none) → ∀ (σ : Ren) (a : Act) (w : World) (m : Nat) (Q : Exit → Act → World → Prop), SR E w0 σ st a w →
    (∀ (σ' : Ren) (a' : Act) (w' : World), Ren.leB B σ σ' → SR E w0 σ' st' a' w' → Q q.toExit a' w') → c.wpIn (FF ro) m E.P Q a w

/-- A loop that stands at its head. -/
def LTri (E : Env) (w0 : World) (B : Nat) (out : Bool) (c : Code) (st : St) (q : Xt) (st' : St) : Prop :=
  ∀ (ro : Option Nat), (out = true → ro = none) → ∀ (σ : Ren) (a : Act) (w : World) (m : Nat) (Q : Exit → Act → World → Prop), SR E w0 σ st a w →
    (∀ (σ' : Ren) (a' : Act) (w' : World), Ren.leB B σ σ' → SR E w0 σ' st' a' w' → Q q.toExit a' w') →
    ∀ (b : Frame) (kk : List Item) (cs : List Frame), b.roundOf = (FF ro).round → (FF ro).fn b.fn → (FF ro).room (cs.length + 1 + m) →
    ∃ e a' w', Q e a' w' ∧ ArrivesIn (Machine.fenced E.P (FF ro)) E.P (lone (b.atR a (.code c :: .inLoop c :: kk)) cs w) b kk cs e a' w'

section
variable {E : Env} {w0 : World} {B : Nat} {out : Bool} {c x y : Code} {st s s' : St} {q : Xt}

theorem Tri.skip : Tri E w0 B out .skip st .norm st := fun _ _ σ a w m Q hs hQ => wpIn_skip (hQ σ a w (Ren.leB_refl _ _) hs)
theorem Tri.label {l : Nat} : Tri E w0 B out (.label l) st .norm st := fun _ _ σ a w m Q hs hQ => wpIn_label (hQ σ a w (Ren.leB_refl _ _) hs)
theorem Tri.ret : Tri E w0 B out .ret st .ret st := fun _ _ σ a w m Q hs hQ => wpIn_ret (hQ σ a w (Ren.leB_refl _ _) hs)
theorem Tri.exit {id : Nat} : Tri E w0 B out (.exit id) st (.exit id) st := fun _ _ σ a w m Q hs hQ => wpIn_exit (hQ σ a w (Ren.leB_refl _ _) hs)
theorem Tri.seq (h1 : Tri E w0 B out x st .norm s) (h2 : Tri E w0 B out y s q s') : Tri E w0 B out (.seq x y) st q s' := by
  intro ro hout σ a w m Q hs hQ
  refine wpIn_seq (h1 ro hout σ a w m _ hs fun σ' a' w' hle hs' => ?_)
  exact h2 ro hout σ' a' w' m Q hs' fun σ'' a'' w'' hle' hs'' => hQ σ'' a'' w'' (Ren.leB_trans hle hle') hs''
theorem Tri.seq_out (hq : q ≠ .norm) (h1 : Tri E w0 B out x st q s) : Tri E w0 B out (.seq x y) st q s := by
  intro ro hout σ a w m Q hs hQ
  refine wpIn_seq (h1 ro hout σ a w m _ hs fun σ' a' w' hle hs' => ?_)
  cases q with
  | norm => exact absurd rfl hq
  | exit id => exact hQ σ' a' w' hle hs'
  | ret => exact hQ σ' a' w' hle hs'
theorem Tri.cond_true {o : Operand} (hc : ev E st.t st.n o = some (.sc (.bool true))) (h : Tri E w0 B out x st q s) : Tri E w0 B out (.cond o x y) st q s := by
  intro ro hout σ a w m Q hs hQ
  exact wpIn_cond_true (ev_rel hs.tr hs.gr hc).sc_inv (h ro hout σ a w m Q hs hQ)
theorem Tri.cond_false {o : Operand} (hc : ev E st.t st.n o = some (.sc (.bool false))) (h : Tri E w0 B out y st q s) : Tri E w0 B out (.cond o x y) st q s := by
  intro ro hout σ a w m Q hs hQ
  exact wpIn_cond_false (ev_rel hs.tr hs.gr hc).sc_inv (h ro hout σ a w m Q hs hQ)

def blockOut (id : Nat) : Xt → Xt
  | .exit i => bif Nat.beq i id then .norm else .exit i
  | q => q
theorem Tri.block {id : Nat} (h : Tri E w0 B out x st q s) : Tri E w0 B out (.block id x) st (blockOut id q) s := by
  intro ro hout σ a w m Q hs hQ
  refine wpIn_block (h ro hout σ a w m _ hs fun σ' a' w' hle hs' => ?_)
  have := hQ σ' a' w' hle hs'
  cases q with
  | norm => exact this
  | ret => exact this
  | exit i =>
    replace this : Q (Xt.toExit (bif Nat.beq i id then .norm else .exit i)) a' w' := this
    cases hb : Nat.beq i id with
    | true =>
      rw [hb] at this
      have hid := beq_iff.1 hb
      subst hid
      simp only [Xt.toExit, Exit.inBlock, if_true]
      exact this
    | false =>
      rw [hb] at this
      have hne : ¬ i = id := fun h => by rw [h] at hb; simp at hb
      simp only [Xt.toExit, Exit.inBlock, if_neg hne]
      exact this
theorem Tri.scope (h : Tri E w0 B out x st q s) : Tri E w0 B out (.scope x) st q s := by
  intro ro hout σ a w m Q hs hQ
  refine wpIn_scope (h ro hout σ a w m _ hs fun σ' a' w' hle hs' => ?_)
  cases q <;> exact hQ σ' a' w' hle hs'

theorem LTri.pass (h1 : Tri E w0 B out c st .norm s) (h2 : LTri E w0 B out c s q s') : LTri E w0 B out c st q s' := by
  intro ro hout σ a w m Q hs hQ b kk cs hro hb hr
  obtain ⟨en, a₁, w₁, hq, harr⟩ := h1 ro hout σ a w m (Exit.then (fun a' w' => ∃ σ', Ren.leB B σ σ' ∧ SR E w0 σ' s a' w') (fun _ _ _ => False)) hs (fun σ' a' w' h1 h2 => ⟨σ', h1, h2⟩) b (.inLoop c :: kk) cs hro hb hr
  cases en with
  | normal =>
    obtain ⟨σ1, hle, hs1⟩ := hq
    obtain ⟨e₂, a₂, w₂, hq₂, harr₂⟩ := h2 ro hout σ1 a₁ w₁ m Q hs1 (fun σ' a' w' h1 h2 => hQ σ' a' w' (Ren.leB_trans hle h1) h2) b kk cs hro hb hr
    exact ⟨e₂, a₂, w₂, hq₂, .of_steps (StepsIn.trans harr (.one (fenced_calm hb hr rfl) stepR_inLoop)) harr₂⟩
  | _ => exact hq.elim
theorem LTri.leave (hne : q ≠ .norm) (h : Tri E w0 B out c st q s) : LTri E w0 B out c st q s := by
  intro ro hout σ a w m Q hs hQ b kk cs hro hb hr
  obtain ⟨en, a₁, w₁, hq, harr⟩ := h ro hout σ a w m (fun e a w => e ≠ .normal ∧ Q e a w) hs (fun σ' a' w' h1 h2 => ⟨by
    cases q with
    | norm => exact absurd rfl hne
    | exit id => exact fun h => (by cases h)
    | ret => exact fun h => (by cases h), hQ σ' a' w' h1 h2⟩) b (.inLoop c :: kk) cs hro hb hr
  cases en with
  | normal => exact absurd rfl hq.1
  | exit id => exact ⟨_, a₁, w₁, hq.2, .pass (x := .inLoop c) rfl (fun _ _ => .inl (by simp)) harr⟩
  | goto l => exact ⟨_, a₁, w₁, hq.2, .pass (x := .inLoop c) rfl (fun _ _ => .inl (by simp)) harr⟩
  | ret => exact ⟨_, a₁, w₁, hq.2, .pass (x := .inLoop c) rfl (fun _ _ => .inl (by simp)) harr⟩
  | panic ch => exact ⟨_, a₁, w₁, hq.2, .pass (x := .inLoop c) rfl (fun _ _ => .inl (by simp)) harr⟩
  | outgrown => exact ⟨_, a₁, w₁, hq.2, .pass (x := .inLoop c) rfl (fun _ _ => .inl (by simp)) harr⟩
theorem Tri.loop (h : LTri E w0 B out c st q s) : Tri E w0 B out (.loop c) st q s := by
  intro ro hout σ a w m Q hs hQ b kk cs hro hb hr
  obtain ⟨en, a', w', hq, harr⟩ := h ro hout σ a w m Q hs hQ b kk cs hro hb hr
  exact ⟨en, a', w', hq, .of_steps (.one (fenced_calm hb hr rfl) stepR_loop) harr⟩

variable {call : Inv}
theorem Tri.region (hc : CallOK E w0 call) {id : Nat} {ops : Array Oper} (h : vops E call ops ops.toList st = some s) : Tri E w0 B out (.region id ops false) st .norm s := by
  intro ro hout σ a w m Q hs hQ
  refine wpIn_region ?_
  rw [List.range_eq_range', ← Array.length_toList]
  exact vops_wp hc ops.toList 0 (fun j => by rw [Nat.zero_add, Array.getElem?_toList]) h hs fun σ' a' w' hle hs' => hQ σ' a' w' (Ren.leB_of_le hle) hs'
theorem Tri.drawn (hm : E.P.follows .mixedOrders = true) (hc : CallOK E w0 call) {id : Nat} {ops : Array Oper} (h : vdraw E call ops st = some s) : Tri E w0 B out (.region id ops true) st .norm s := by
  intro ro hout σ a w m Q hs hQ
  exact vdraw_wp hm hc h hs fun σ' a' w' hle hs' => hQ σ' a' w' (Ren.leB_of_le hle) hs'
theorem Tri.rangeFunc (hc : CallOK E w0 call) {f : Operand} {ps : Array Tmp} {as bd : Code} (hout : out = true) (h : vrangeFunc E call f ps as bd st = some (q, s)) : Tri E w0 B out (.rangeFunc f ps as bd) st q s := by
  intro ro hro σ a w m Q hs hQ
  have := hro hout
  subst this
  exact vrangeFunc_wp hc h hs fun σ' a' w' hle hs' => hQ σ' a' w' (Ren.leB_of_le hle) hs'
end

end
end Go.Proofs.YtmlfcaaecofnjaaGreatDoor.SM
