/- A small evaluator for closed calls: values, tries, the relation between the evaluator's values and the machine's. -/
import Derived.CallsIn
import Derived.RangeFuncLeaves
import Derived.RangeFuncRecord
import Derived.OrdersIn
import Derived.Below
import Derived.Laws.World
import Derived.Laws.Sem
import Derived.KernelRfl
set_option linter.unusedVariables false
set_option linter.unusedSimpArgs false
namespace Go.Proofs.YtmlfcaaecofnjaaGreatDoor.AM
open Go
noncomputable section

/-! ### Tries -/
inductive Tr (α : Type) where
  | nil
  | node (v : Option α) (l r : Tr α)

def Tr.get {α : Type} (t : Tr α) : Nat → Option α :=
  Tr.rec (motive := fun _ => Nat → Option α) (fun _ => none) (fun v _ _ gl gr n => bif Nat.beq n 0 then v else bif Nat.beq (n % 2) 1 then gl (n / 2) else gr (n / 2 - 1)) t
theorem Tr.get_node {α : Type} (v : Option α) (l r : Tr α) (n : Nat) : (Tr.node v l r).get n = bif Nat.beq n 0 then v else bif Nat.beq (n % 2) 1 then l.get (n / 2) else r.get (n / 2 - 1) := rfl
theorem Tr.get_nil0 {α : Type} (n : Nat) : (Tr.nil : Tr α).get n = none := rfl

def Tr.setF {α : Type} (k : Nat) : Tr α → Nat → α → Tr α :=
  Nat.rec (motive := fun _ => Tr α → Nat → α → Tr α) (fun t _ _ => t)
    (fun _ ih t n x => Tr.casesOn (motive := fun _ => Tr α) t
      (bif Nat.beq n 0 then .node (some x) .nil .nil else bif Nat.beq (n % 2) 1 then .node none (ih .nil (n / 2) x) .nil else .node none .nil (ih .nil (n / 2 - 1) x))
      (fun v l r => bif Nat.beq n 0 then .node (some x) l r else bif Nat.beq (n % 2) 1 then .node v (ih l (n / 2) x) r else .node v l (ih r (n / 2 - 1) x))) k
theorem Tr.setF_nil {α : Type} (k n : Nat) (x : α) : Tr.setF (k + 1) Tr.nil n x = bif Nat.beq n 0 then .node (some x) .nil .nil else bif Nat.beq (n % 2) 1 then .node none (Tr.setF k .nil (n / 2) x) .nil else .node none .nil (Tr.setF k .nil (n / 2 - 1) x) := rfl
theorem Tr.setF_node {α : Type} (k n : Nat) (x : α) (v : Option α) (l r : Tr α) : Tr.setF (k + 1) (Tr.node v l r) n x = bif Nat.beq n 0 then .node (some x) l r else bif Nat.beq (n % 2) 1 then .node v (Tr.setF k l (n / 2) x) r else .node v l (Tr.setF k r (n / 2 - 1) x) := rfl

def Tr.set {α : Type} (t : Tr α) (n : Nat) (x : α) : Tr α := Tr.setF (n + 1) t n x

theorem Tr.get_nil {α : Type} (n : Nat) : (Tr.nil : Tr α).get n = none := rfl

theorem Tr.get_setF {α : Type} : ∀ (k : Nat) (t : Tr α) (n m : Nat) (x : α), n < k → (Tr.setF k t n x).get m = if m = n then some x else t.get m := by
  intro k
  induction k with
  | zero => intro t n m x h; omega
  | succ k ih =>
    intro t n m x h
    have e0 : ∀ a : Nat, Nat.beq a 0 = decide (a = 0) := fun a => by cases a <;> rfl
    have e1 : ∀ a : Nat, Nat.beq (a % 2) 1 = decide (a % 2 = 1) := fun a => by
      rcases Nat.mod_two_eq_zero_or_one a with h | h <;> rw [h] <;> rfl
    cases t with
    | nil =>
      simp only [Tr.setF_nil, Tr.setF_node, e0, e1]
      by_cases hn : n = 0
      · subst hn
        simp only [decide_true, cond_true, Tr.get_node, Tr.get_nil0, e0, e1]
        by_cases hm : m = 0 <;> simp [hm, Tr.get_nil]
      · by_cases hp : n % 2 = 1
        · simp only [hn, hp, decide_false, decide_true, cond_false, cond_true, Tr.get_node, Tr.get_nil0, e0, e1]
          by_cases hm : m = 0
          · simp [hm, Tr.get_nil, Ne.symm hn]
          · by_cases hq : m % 2 = 1
            · simp only [hm, hq, decide_false, decide_true, cond_false, cond_true]
              rw [ih _ _ _ _ (by omega)]
              by_cases hmn : m = n
              · simp [hmn]
              · rw [if_neg hmn, if_neg (by omega)]; simp [Tr.get_nil]
            · have : m ≠ n := by omega
              simp [hm, hq, Tr.get_nil, this]
        · simp only [hn, hp, decide_false, decide_true, cond_false, cond_true, Tr.get_node, Tr.get_nil0, e0, e1]
          by_cases hm : m = 0
          · simp [hm, Tr.get_nil, Ne.symm hn]
          · by_cases hq : m % 2 = 1
            · have : m ≠ n := by omega
              simp [hm, hq, Tr.get_nil, this]
            · simp only [hm, hq, decide_false, decide_true, cond_false, cond_true]
              rw [ih _ _ _ _ (by omega)]
              by_cases hmn : m = n
              · simp [hmn]
              · rw [if_neg hmn, if_neg (by omega)]; simp [Tr.get_nil]
    | node v l r =>
      simp only [Tr.setF_nil, Tr.setF_node, e0, e1]
      by_cases hn : n = 0
      · subst hn
        simp only [decide_true, cond_true, Tr.get_node, Tr.get_nil0, e0, e1]
        by_cases hm : m = 0 <;> simp [hm]
      · by_cases hp : n % 2 = 1
        · simp only [hn, hp, decide_false, decide_true, cond_false, cond_true, Tr.get_node, Tr.get_nil0, e0, e1]
          by_cases hm : m = 0
          · simp [hm, Ne.symm hn]
          · by_cases hq : m % 2 = 1
            · simp only [hm, hq, decide_false, decide_true, cond_false, cond_true]
              rw [ih _ _ _ _ (by omega)]
              by_cases hmn : m = n
              · simp [hmn]
              · rw [if_neg hmn, if_neg (by omega)]
            · have : m ≠ n := by omega
              simp [hm, hq, this]
        · simp only [hn, hp, decide_false, decide_true, cond_false, cond_true, Tr.get_node, Tr.get_nil0, e0, e1]
          by_cases hm : m = 0
          · simp [hm, Ne.symm hn]
          · by_cases hq : m % 2 = 1
            · have : m ≠ n := by omega
              simp [hm, hq, this]
            · simp only [hm, hq, decide_false, decide_true, cond_false, cond_true]
              rw [ih _ _ _ _ (by omega)]
              by_cases hmn : m = n
              · simp [hmn]
              · rw [if_neg hmn, if_neg (by omega)]

theorem Tr.get_set {α : Type} (t : Tr α) (n m : Nat) (x : α) : (t.set n x).get m = if m = n then some x else t.get m := Tr.get_setF _ t n m x (by omega)

/-! ### Two lists, place by place -/
inductive F2 {α β : Type} (R : α → β → Prop) : List α → List β → Prop where
  | nil : F2 R [] []
  | cons {a b as bs} (h : R a b) (t : F2 R as bs) : F2 R (a :: as) (b :: bs)

section
variable {α β : Type} {R R' : α → β → Prop}
theorem F2.mono (h : ∀ a b, R a b → R' a b) {as : List α} {bs : List β} (f : F2 R as bs) : F2 R' as bs := by
  induction f with
  | nil => exact .nil
  | cons h' _ ih => exact .cons (h _ _ h') ih
theorem F2.length {as : List α} {bs : List β} (f : F2 R as bs) : as.length = bs.length := by
  induction f with
  | nil => rfl
  | cons _ _ ih => simp [ih]
theorem F2.at_ {as : List α} {bs : List β} (f : F2 R as bs) : ∀ (i : Nat) (a : α), as[i]? = some a → ∃ b, bs[i]? = some b ∧ R a b := by
  induction f with
  | nil => intro i a h; simp at h
  | cons h' _ ih =>
    intro i a h
    cases i with
    | zero => simp at h; subst h; exact ⟨_, rfl, h'⟩
    | succ i => simpa using ih i a (by simpa using h)
theorem F2.append {as as' : List α} {bs bs' : List β} (f : F2 R as bs) (g : F2 R as' bs') : F2 R (as ++ as') (bs ++ bs') := by
  induction f with
  | nil => exact g
  | cons h' _ ih => exact .cons h' ih
theorem F2.drop {as : List α} {bs : List β} (f : F2 R as bs) : ∀ n, F2 R (as.drop n) (bs.drop n) := by
  induction f with
  | nil => intro n; simp; exact .nil
  | cons h' t ih =>
    intro n
    cases n with
    | zero => exact .cons h' t
    | succ n => simpa using ih n
theorem F2.take {as : List α} {bs : List β} (f : F2 R as bs) : ∀ n, F2 R (as.take n) (bs.take n) := by
  induction f with
  | nil => intro n; simp; exact .nil
  | cons h' t ih =>
    intro n
    cases n with
    | zero => exact .nil
    | succ n => simpa using .cons h' (ih n)
theorem F2.set {as : List α} {bs : List β} (f : F2 R as bs) : ∀ (i : Nat) {a : α} {b : β}, R a b → F2 R (as.set i a) (bs.set i b) := by
  induction f with
  | nil => intro i a b _; exact .nil
  | cons h' t ih =>
    intro i a b hab
    cases i with
    | zero => exact .cons hab t
    | succ i => exact .cons h' (ih i hab)
theorem F2.of_at : ∀ {as : List α} {bs : List β}, as.length = bs.length → (∀ (i : Nat) (a : α) (b : β), as[i]? = some a → bs[i]? = some b → R a b) → F2 R as bs
  | [], [], _, _ => .nil
  | a :: as, b :: bs, hl, h => .cons (h 0 a b rfl rfl) (F2.of_at (by simpa using hl) fun i x y hx hy => h (i + 1) x y (by simpa using hx) (by simpa using hy))
end

/-! ### Values of the evaluator -/
inductive V where
  | sc (v : Value)
  | ptr (b o : Nat)
  | sl (b o len es : Nat) (cap : Option Nat)
  | mp (r : Nat)
  | yl (l : Nat)
  | fn (f : FuncId) (fi cs : List V)
  | agg (cs : List V)
  | tup (vs : List V)
deriving Inhabited

/-- Which block of the machine's a block of the evaluator's is, and how many cells that has. -/
structure Ren where
  m : Nat → Option Nat
  z : Nat → Nat
instance : CoeFun Ren (fun _ => Nat → Option Nat) := ⟨Ren.m⟩
def Ren.le (σ τ : Ren) : Prop := ∀ (i b : Nat), σ i = some b → τ i = some b ∧ τ.z i = σ.z i
theorem Ren.le_refl (σ : Ren) : Ren.le σ σ := fun _ _ h => ⟨h, rfl⟩
theorem Ren.le_trans {σ τ υ : Ren} (h : Ren.le σ τ) (k : Ren.le τ υ) : Ren.le σ υ := fun i b e => ⟨(k i b (h i b e).1).1, (k i b (h i b e).1).2.trans (h i b e).2⟩

/-- A value that names no place. -/
def scalar : Value → Bool
  | .bool _ | .int _ _ | .float _ _ | .complex _ _ _ | .string _ | .pointer none | .map none | .chan none | .nilFunc | .nilIface => true
  | .slice none 0 0 => true
  | _ => false

inductive RL (σ : Ren) : V → Value → Prop where
  | sc {v : Value} (h : scalar v = true) : RL σ (.sc v) v
  | ptr {b b' o : Nat} (h : σ b = some b') : RL σ (.ptr b o) (.pointer (some ⟨b', o, none⟩))
  | sl {b b' o n es c' : Nat} {c : Option Nat} (h : σ b = some b') (hc : ∀ k, c = some k → c' = k) (hn : n ≤ c') (hz : o + c' * es ≤ σ.z b) : RL σ (.sl b o n es c) (.slice (some ⟨b', o, none⟩) n c')
  | slE {b o es : Nat} {a' : Addr} : RL σ (.sl b o 0 es none) (.slice (some a') 0 0)
  | mp {r r' : Nat} (h : σ r = some r') : RL σ (.mp r) (.map (some r'))
  | yl {l l' : Nat} (h : σ l = some l') : RL σ (.yl l) (.func (.yield l') #[] #[])

inductive RC (σ : Ren) : V → Value → Prop where
  | leaf {v : V} {v' : Value} (h : RL σ v v') : RC σ v v'
  | fn {f : FuncId} {fi cs : List V} {fi' cs' : List Value} (h1 : F2 (RL σ) fi fi') (h2 : F2 (RL σ) cs cs') : RC σ (.fn f fi cs) (.func (.func f) ⟨fi'⟩ ⟨cs'⟩)

inductive RV (σ : Ren) : V → Value → Prop where
  | cell {v : V} {v' : Value} (h : RC σ v v') : RV σ v v'
  | agg {cs : List V} {cs' : List Value} (h : F2 (RC σ) cs cs') : RV σ (.agg cs) (.agg ⟨cs'⟩)

inductive RT (σ : Ren) : V → Value → Prop where
  | val {v : V} {v' : Value} (h : RV σ v v') : RT σ v v'
  | tup {vs : List V} {vs' : List Value} (h : F2 (RV σ) vs vs') : RT σ (.tup vs) (.tuple ⟨vs'⟩)

section
variable {σ τ : Ren} (h : Ren.le σ τ)
include h
theorem RL.mono {v : V} {v' : Value} (r : RL σ v v') : RL τ v v' := by
  cases r with
  | sc h1 => exact .sc h1
  | ptr h1 => exact .ptr (h _ _ h1).1
  | sl h1 h2 h3 h4 => exact .sl (h _ _ h1).1 h2 h3 (by rw [(h _ _ h1).2]; exact h4)
  | slE => exact .slE
  | mp h1 => exact .mp (h _ _ h1).1
  | yl h1 => exact .yl (h _ _ h1).1
theorem RC.mono {v : V} {v' : Value} (r : RC σ v v') : RC τ v v' := by
  cases r with
  | leaf h1 => exact .leaf (h1.mono h)
  | fn h1 h2 => exact .fn (h1.mono fun _ _ x => x.mono h) (h2.mono fun _ _ x => x.mono h)
theorem RV.mono {v : V} {v' : Value} (r : RV σ v v') : RV τ v v' := by
  cases r with
  | cell h1 => exact .cell (h1.mono h)
  | agg h1 => exact .agg (h1.mono fun _ _ x => x.mono h)
theorem RT.mono {v : V} {v' : Value} (r : RT σ v v') : RT τ v v' := by
  cases r with
  | val h1 => exact .val (h1.mono h)
  | tup h1 => exact .tup (h1.mono fun _ _ x => x.mono h)
end

/-! ### Out of the evaluator's values, and into them -/
def toCells : List V → Option (List Value)
  | [] => some []
  | .sc v :: r => match toCells r with
    | some vs => some (v :: vs)
    | none => none
  | _ :: _ => none

def toValue : V → Option Value
  | .sc v => some v
  | .agg cs => match toCells cs with
    | some vs => some (.agg ⟨vs⟩)
    | none => none
  | _ => none

def ofCells : List Value → Option (List V)
  | [] => some []
  | v :: r => bif scalar v then (match ofCells r with | some vs => some (.sc v :: vs) | none => none) else none

def ofValue : Value → Option V
  | .agg cs => match ofCells cs.toList with
    | some vs => some (.agg vs)
    | none => none
  | v => bif scalar v then some (.sc v) else none

theorem toCells_eq {σ : Ren} : ∀ {cs : List V} {cs' us : List Value}, F2 (RC σ) cs cs' → toCells cs = some us → cs' = us := by
  intro cs
  induction cs with
  | nil => intro cs' us h e; cases h; simpa [toCells] using e
  | cons c cs ih =>
    intro cs' us h e
    cases h with
    | cons h1 ht =>
      cases c <;> simp only [toCells] at e <;> try (cases e)
      rename_i v
      cases hh : toCells cs with
      | none => rw [hh] at e; cases e
      | some vs =>
        rw [hh] at e
        have := ih ht hh
        subst this
        cases e
        cases h1 with
        | leaf h2 => cases h2; rfl

theorem toValue_eq {σ : Ren} {v : V} {v' u : Value} (h : RT σ v v') (e : toValue v = some u) : v' = u := by
  cases v with
  | sc w =>
    simp only [toValue, Option.some.injEq] at e
    subst e
    cases h with
    | val h => cases h with
      | cell h => cases h with
        | leaf h => cases h; rfl
  | agg cs =>
    simp only [toValue] at e
    cases hh : toCells cs with
    | none => rw [hh] at e; cases e
    | some vs =>
      rw [hh] at e
      cases e
      cases h with
      | val h => cases h with
        | cell h => cases h with
          | leaf h => cases h
        | agg h => rw [toCells_eq h hh]
  | _ => simp [toValue] at e

theorem ofCells_rel (σ : Ren) : ∀ {vs : List Value} {cs : List V}, ofCells vs = some cs → F2 (RC σ) cs vs := by
  intro vs
  induction vs with
  | nil => intro cs e; simp only [ofCells, Option.some.injEq] at e; subst e; exact .nil
  | cons v vs ih =>
    intro cs e
    simp only [ofCells] at e
    cases hs : scalar v with
    | false => rw [hs] at e; cases e
    | true =>
      rw [hs] at e
      simp only [cond_true] at e
      cases hh : ofCells vs with
      | none => rw [hh] at e; cases e
      | some us => rw [hh] at e; cases e; exact .cons (.leaf (.sc hs)) (ih hh)

theorem ofValue_rel (σ : Ren) {v : Value} {u : V} (e : ofValue v = some u) : RV σ u v := by
  have key : ∀ w : Value, (bif scalar w then some (V.sc w) else none) = some u → RV σ u w := by
    intro w e
    cases hs : scalar w with
    | false => rw [hs] at e; cases e
    | true => rw [hs] at e; cases e; exact .cell (.leaf (.sc hs))
  cases v with
  | agg cs =>
    simp only [ofValue] at e
    cases hh : ofCells cs.toList with
    | none => rw [hh] at e; cases e
    | some us => rw [hh] at e; cases e; exact .agg (ofCells_rel σ hh)
  | _ => exact key _ e

end
end Go.Proofs.YtmlfcaaecofnjaaGreatDoor.AM
