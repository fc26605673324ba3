/- The evaluator's operations that leave the world alone. -/
import Derived.Test.YtmlfcaaecofnjaaGreatDoorSm2
set_option linter.unusedVariables false
set_option linter.unusedSimpArgs false
namespace Go.Proofs.YtmlfcaaecofnjaaGreatDoor.SM
open Go Go.RowKit
noncomputable section

/-- What a computation answers that asks nothing of the world. -/
def pureRun {α : Type} (P : Program) : Sem α → Option α
  | .pure a => some a
  | .program k => pureRun P (k P)
  | .mark _ k => pureRun P k
  | _ => none

theorem pureRun_run {α : Type} {P : Program} {s : Sem α} {a : α} (w : World) (h : pureRun P s = some a) : s.run P w = .ok a w := by
  induction s with
  | pure b => simp only [pureRun, Option.some.injEq] at h; subst h; rfl
  | program k ih => exact ih P h
  | mark m k ih => exact ih h
  | _ => simp [pureRun] at h

theorem run_siz {P : Program} {t : TypeId} {i : TypeInfo} (h : P.info? t = some i) (w : World) : (sizeOf t).run P w = .ok i.size w := by simp [sizeOf, typeInfo, h]
theorem run_und {P : Program} {t : TypeId} {d : TypeDesc} (h : P.underlying t = some d) (w : World) : (underlying t).run P w = .ok d w := by simp [underlying, h]
theorem run_zero {P : Program} {t : TypeId} {i : TypeInfo} {z : Value} (h : P.info? t = some i) (hz : i.zero = some z) (w : World) : (zeroValue t).run P w = .ok z w := by simp [zeroValue, typeInfo, h, hz]

def isAggD : TypeDesc → Bool
  | .struct _ => true
  | .array _ _ => true
  | _ => false
theorem run_isAggD {P : Program} {t : TypeId} {d : TypeDesc} (h : P.underlying t = some d) (w : World) : (isAgg t).run P w = .ok (isAggD d) w := by
  simp only [isAgg, Sem.run_bind, run_und h, Result.andThen_ok]
  cases d <;> rfl

/-- The operands. -/
structure Env where
  P : Program
  G : Nat
  /-- Blocks below are only read. -/
  R : Nat
  /-- Functions without a body. -/
  X : Nat → List V → Option V
  hX : ∀ (σ : Ren) (g : Nat) (args : List V) (v : V) (args' : List Value) (w : World), X g args = some v → F2 (RV σ) args args' → ∃ v', (callFunc g ⟨args'⟩).run P w = .ok (.value v') w ∧ RT σ v v'

/-- No function without a body. -/
def Env.plain (P : Program) (G : Nat) : Env := ⟨P, G, G, fun _ _ => none, fun _ _ _ _ _ _ h => by cases h⟩

def ev (E : Env) (t : Tr V) (n : Nat) : Operand → Option V
  | .tmp i => bif Nat.blt i n then some ((t.get i).getD undefV) else some undefV
  | .const v => ofValue v
  | .global g => bif Nat.blt g E.G then some (.ptr g 0) else none
  | .func f => some (.fn f [] [])

def GR (E : Env) (σ : Ren) : Prop := ∀ g : Nat, g < E.G → σ g = some g
theorem GR.mono {E : Env} {σ τ : Ren} (h : Ren.le σ τ) (g : GR E σ) : GR E τ := fun i hi => (h _ _ (g i hi)).1

theorem blt_iff {a b : Nat} : Nat.blt a b = true ↔ a < b := by simp [Nat.blt, Nat.ble_eq, Nat.succ_le_iff]

theorem ev_rel {E : Env} {σ : Ren} {t : Tr V} {n : Nat} {a : Act} (ht : TR σ t n a.tmps) (hG : GR E σ) {x : Operand} {v : V} (h : ev E t n x = some v) : RT σ v (a.eval x) := by
  cases x with
  | tmp i =>
    simp only [ev] at h
    by_cases hi : i < n
    · rw [blt_iff.2 hi] at h
      cases h
      exact ht.at_ i hi
    · have hb : Nat.blt i n = false := by
        cases hh : Nat.blt i n with
        | false => rfl
        | true => exact absurd (blt_iff.1 hh) hi
      rw [hb] at h
      cases h
      have hs := ht.size
      have : a.eval (.tmp i) = undef := by
        show a.tmps.getD i undef = undef
        have hge : n ≤ i := Nat.le_of_not_lt hi
        rw [Array.getD_eq_getD_getElem?, Array.getElem?_eq_none (by rw [hs]; exact hge)]; rfl
      rw [this]
      exact RT.undef σ
  | const c => exact .val (ofValue_rel σ h)
  | global g =>
    simp only [ev] at h
    cases hb : Nat.blt g E.G with
    | false => rw [hb] at h; cases h
    | true =>
      rw [hb] at h
      cases h
      exact .val (.cell (.leaf (.ptr (hG g (blt_iff.1 hb)))))
  | func f => cases h; exact .val (.cell (.fn .nil .nil))

/-! ### What a relation says of the machine's value, by the evaluator's -/
section inv
variable {σ : Ren}
theorem RT.ptr_inv {b o : Nat} {v' : Value} (h : RT σ (.ptr b o) v') : ∃ b', σ b = some b' ∧ v' = .pointer (some ⟨b', o, none⟩) := by
  cases h with
  | val h => cases h with
    | cell h => cases h with
      | leaf h => cases h with
        | ptr h => exact ⟨_, h, rfl⟩
theorem RT.sc_inv {v v' : Value} (h : RT σ (.sc v) v') : v' = v := by
  cases h with
  | val h => cases h with
    | cell h => cases h with
      | leaf h => cases h; rfl
theorem RT.sl_inv {b o n es : Nat} {c : Option Nat} {v' : Value} (h : RT σ (.sl b o n es c) v') :
    (∃ b' c', σ b = some b' ∧ (∀ k, c = some k → c' = k) ∧ n ≤ c' ∧ o + c' * es ≤ σ.z b ∧ v' = .slice (some ⟨b', o, none⟩) n c') ∨ (n = 0 ∧ c = none ∧ ∃ a', v' = .slice (some a') 0 0) := by
  cases h with
  | val h => cases h with
    | cell h => cases h with
      | leaf h => cases h with
        | sl h hc hn hz => exact .inl ⟨_, _, h, hc, hn, hz, rfl⟩
        | slE => exact .inr ⟨rfl, rfl, _, rfl⟩
theorem RT.mp_inv {r : Nat} {v' : Value} (h : RT σ (.mp r) v') : ∃ r', σ r = some r' ∧ v' = .map (some r') := by
  cases h with
  | val h => cases h with
    | cell h => cases h with
      | leaf h => cases h with
        | mp h => exact ⟨_, h, rfl⟩
theorem RT.agg_inv {cs : List V} {v' : Value} (h : RT σ (.agg cs) v') : ∃ cs', F2 (RC σ) cs cs' ∧ v' = .agg ⟨cs'⟩ := by
  cases h with
  | val h => cases h with
    | cell h => cases h with
      | leaf h => cases h
    | agg h => exact ⟨_, h, rfl⟩
theorem RT.tup_inv {vs : List V} {v' : Value} (h : RT σ (.tup vs) v') : ∃ vs', F2 (RV σ) vs vs' ∧ v' = .tuple ⟨vs'⟩ := by
  cases h with
  | val h => cases h with
    | cell h => cases h with
      | leaf h => cases h
  | tup h => exact ⟨_, h, rfl⟩
theorem RT.fn_inv {f : FuncId} {fi cs : List V} {v' : Value} (h : RT σ (.fn f fi cs) v') : ∃ fi' cs', F2 (RL σ) fi fi' ∧ F2 (RL σ) cs cs' ∧ v' = .func (.func f) ⟨fi'⟩ ⟨cs'⟩ := by
  cases h with
  | val h => cases h with
    | cell h => cases h with
      | leaf h => cases h
      | fn h1 h2 => exact ⟨_, _, h1, h2, rfl⟩
theorem RT.yl_inv {l : Nat} {v' : Value} (h : RT σ (.yl l) v') : ∃ l', σ l = some l' ∧ v' = .func (.yield l') #[] #[] := by
  cases h with
  | val h => cases h with
    | cell h => cases h with
      | leaf h => cases h with
        | yl h => exact ⟨_, h, rfl⟩
end inv

/-- Is it a value of one cell? -/
def isCell : V → Bool
  | .agg _ => false
  | .tup _ => false
  | .unk => false
  | _ => true
def isLeaf : V → Bool
  | .agg _ => false
  | .tup _ => false
  | .unk => false
  | .fn _ _ _ => false
  | _ => true
theorem RT.cell {σ : Ren} {v : V} {v' : Value} (h : RT σ v v') (hc : isCell v = true) : RC σ v v' := by
  cases h with
  | val h => cases h with
    | cell h => exact h
    | agg h => cases hc
  | tup h => cases hc
theorem RT.leaf {σ : Ren} {v : V} {v' : Value} (h : RT σ v v') (hc : isLeaf v = true) : RL σ v v' := by
  cases h with
  | val h => cases h with
    | cell h => cases h with
      | leaf h => exact h
      | fn _ _ => cases hc
      | unk => cases hc
    | agg h => cases hc
  | tup h => cases hc
theorem RT.of_not_tup {σ : Ren} {v : V} {v' : Value} (h : RT σ v v') (hc : (match v with | .tup _ => false | _ => true) = true) : RV σ v v' := by
  cases h with
  | val h => exact h
  | tup h => cases hc
def noUnk1 : V → Bool
  | .unk => false
  | _ => true
def noUnk : List V → Bool
  | [] => true
  | v :: r => bif noUnk1 v then noUnk r else false
theorem noUnk_mem {l : List V} (h : noUnk l = true) : ∀ v ∈ l, noUnk1 v = true := by
  induction l with
  | nil => intro v hv; cases hv
  | cons x r ih =>
    intro v hv
    simp only [noUnk] at h
    cases hx : noUnk1 x with
    | false => rw [hx] at h; cases h
    | true =>
      rw [hx] at h
      rcases List.mem_cons.1 hv with rfl | hv
      · exact hx
      · exact ih h v hv
theorem RC.oneCell {σ : Ren} {v : V} {v' : Value} (h : RC σ v v') (hn : noUnk1 v = true) : v'.oneCell' = true := by
  cases h with
  | unk => cases hn
  | leaf h => cases h with
    | sc h => cases v' <;> first | rfl | cases h
    | _ => rfl
  | fn _ _ => rfl
theorem RC.cells {σ : Ren} {v : V} {v' : Value} (h : RC σ v v') (hn : noUnk1 v = true) : v'.cells = #[v'] := by
  have := h.oneCell hn
  cases v' <;> first | rfl | cases this

/-- The cells of a value. -/
def vcells : V → Option (List V)
  | .agg cs => some cs
  | .tup _ => none
  | .unk => none
  | v => some [v]
theorem vcells_rel {σ : Ren} {v : V} {v' : Value} {cs : List V} (h : RT σ v v') (e : vcells v = some cs) : F2 (RC σ) cs v'.cells.toList := by
  cases h with
  | tup h => cases e
  | val h => cases h with
    | agg h => cases e; exact h
    | cell h =>
      have : cs = [v] ∧ noUnk1 v = true := by
        cases v <;> first | (cases e; exact ⟨rfl, rfl⟩) | (cases e; done) | (cases h; rename_i h; cases h)
      obtain ⟨this, hn⟩ := this
      subst this
      rw [h.cells hn]
      exact .cons h .nil

/-! ### A part of a struct or an array -/
def vpart (E : Env) (t : TypeId) (cs : List V) (off : Nat) : Option V :=
  match E.P.underlying t with
  | none => none
  | some d => bif isAggD d then (match E.P.info? t with | some i => bif Nat.ble (off + i.size) cs.length then some (.agg ((cs.drop off).take i.size)) else none | none => none)
    else cs[off]?
theorem vpart_rel {E : Env} {σ : Ren} {t : TypeId} {cs : List V} {cs' : List Value} {off : Nat} {v : V} (h : F2 (RC σ) cs cs') (e : vpart E t cs off = some v) :
    ∃ v', (∀ w, (part t ⟨cs'⟩ off).run E.P w = .ok v' w) ∧ RV σ v v' := by
  unfold vpart at e
  cases hu : E.P.underlying t with
  | none => rw [hu] at e; cases e
  | some d =>
    rw [hu] at e
    simp only at e
    cases hd : isAggD d with
    | true =>
      rw [hd] at e
      simp only [cond_true] at e
      cases hi : E.P.info? t with
      | none => rw [hi] at e; cases e
      | some i =>
        rw [hi] at e
        simp only at e
        cases hb : Nat.ble (off + i.size) cs.length with
        | false => rw [hb] at e; cases e
        | true =>
          rw [hb] at e
          cases e
          refine ⟨.agg ⟨(cs'.drop off).take i.size⟩, fun w => ?_, .agg ((h.drop off).take i.size)⟩
          have hx : (⟨cs'⟩ : Array Value).extract off (off + i.size) = ⟨(cs'.drop off).take i.size⟩ := by
            apply Array.ext'
            simp [Array.toList_extract, List.extract_eq_take_drop]
          simp [part, run_isAggD hu, hd, run_siz hi, hx]
    | false =>
      rw [hd] at e
      simp only [cond_false] at e
      obtain ⟨v', h1, h2⟩ := h.at_ off v e
      refine ⟨v', fun w => ?_, .cell h2⟩
      have hx : (⟨cs'⟩ : Array Value)[off]? = some v' := by simpa using h1
      simp [part, run_isAggD hu, hd, hx]

def asN : V → Option Nat
  | .sc (.int _ (.ofNat n)) => some n
  | _ => none
theorem asN_inv {σ : Ren} {v : V} {v' : Value} {n : Nat} (h : RT σ v v') (e : asN v = some n) : ∃ k, v' = .int k n := by
  unfold asN at e
  split at e
  · cases e; have := h.sc_inv; exact ⟨_, this⟩
  · cases e

theorem add_mk (b o k : Nat) : (⟨b, o, none⟩ : Addr).add k = ⟨b, o + k, none⟩ := by
  unfold Addr.add
  by_cases h : k = 0 <;> simp [h]

end
end Go.Proofs.YtmlfcaaecofnjaaGreatDoor.SM
