/- A state with less in it: blocks under other numbers, temporaries that are not known. -/
import Derived.Test.YtmlfcaaecofnjaaGreatDoorSmU
set_option linter.unusedVariables false
set_option linter.unusedSimpArgs false
namespace Go.Proofs.YtmlfcaaecofnjaaGreatDoor.SM
open Go Go.RowKit
noncomputable section

/-! ### Values under other numbers -/
def rleaf (ρ : Nat → Option Nat) : V → Option V
  | .sc v => some (.sc v)
  | .ptr b o => match ρ b with
    | some c => some (.ptr c o)
    | none => none
  | .sl b o n es c => match ρ b with
    | some d => some (.sl d o n es c)
    | none => none
  | .mp b => match ρ b with
    | some c => some (.mp c)
    | none => none
  | .yl b => match ρ b with
    | some c => some (.yl c)
    | none => none
  | _ => none
def rleafs (ρ : Nat → Option Nat) (l : List V) : Option (List V) :=
  List.rec (motive := fun _ => Option (List V)) (some []) (fun v _ r => match rleaf ρ v, r with
    | some u, some us => some (u :: us)
    | _, _ => none) l
def rcell (ρ : Nat → Option Nat) : V → V
  | .fn f fi cs => match rleafs ρ fi, rleafs ρ cs with
    | some fi', some cs' => .fn f fi' cs'
    | _, _ => .unk
  | v => match rleaf ρ v with
    | some u => u
    | none => .unk
def rcells (ρ : Nat → Option Nat) (l : List V) : List V :=
  List.rec (motive := fun _ => List V) [] (fun v _ r => rcell ρ v :: r) l
def rval (ρ : Nat → Option Nat) : V → V
  | .agg cs => .agg (rcells ρ cs)
  | v => rcell ρ v
def rvals (ρ : Nat → Option Nat) (l : List V) : List V :=
  List.rec (motive := fun _ => List V) [] (fun v _ r => rval ρ v :: r) l
def rtmp (ρ : Nat → Option Nat) : V → V
  | .tup vs => .tup (rvals ρ vs)
  | v => rval ρ v

def Under (σ τ : Ren) (ρ : Nat → Option Nat) : Prop := ∀ i j b, ρ i = some j → σ i = some b → τ j = some b ∧ τ.z j = σ.z i

section
variable {σ τ : Ren} {ρ : Nat → Option Nat} (hu : Under σ τ ρ)
include hu
theorem rleaf_rel {v u : V} {v' : Value} (h : RL σ v v') (e : rleaf ρ v = some u) : RL τ u v' := by
  cases h with
  | sc h => cases e; exact .sc h
  | ptr h =>
    simp only [rleaf] at e
    split at e
    · rename_i c hc; cases e; exact .ptr (hu _ _ _ hc h).1
    · cases e
  | sl h h2 h3 h4 =>
    simp only [rleaf] at e
    split at e
    · rename_i c hc; cases e; exact .sl (hu _ _ _ hc h).1 h2 h3 (by rw [(hu _ _ _ hc h).2]; exact h4)
    · cases e
  | slE =>
    simp only [rleaf] at e
    split at e
    · cases e; exact .slE
    · cases e
  | mp h =>
    simp only [rleaf] at e
    split at e
    · rename_i c hc; cases e; exact .mp (hu _ _ _ hc h).1
    · cases e
  | yl h =>
    simp only [rleaf] at e
    split at e
    · rename_i c hc; cases e; exact .yl (hu _ _ _ hc h).1
    · cases e
theorem rleafs_rel : ∀ {vs us : List V} {vs' : List Value}, F2 (RL σ) vs vs' → rleafs ρ vs = some us → F2 (RL τ) us vs' := by
  intro vs
  induction vs with
  | nil => intro us vs' h e; cases h; cases e; exact .nil
  | cons v vs ih =>
    intro us vs' h e
    cases h with
    | cons h1 h2 =>
      change (match rleaf ρ v, rleafs ρ vs with
        | some u, some us => some (u :: us)
        | _, _ => none) = _ at e
      split at e
      · rename_i u us1 e1 e2
        cases e
        exact .cons (rleaf_rel hu h1 e1) (ih h2 e2)
      · cases e
theorem rcell_rel {v : V} {v' : Value} (h : RC σ v v') : RC τ (rcell ρ v) v' := by
  cases h with
  | fn h1 h2 =>
    simp only [rcell]
    split
    · rename_i e1 e2; exact .fn (rleafs_rel hu h1 e1) (rleafs_rel hu h2 e2)
    · exact .unk
  | unk => exact .unk
  | leaf h =>
    have key : ∀ u, rleaf ρ v = u → RC τ (match u with | some u => u | none => .unk) v' := by
      intro u e
      cases u with
      | none => exact .unk
      | some u => exact .leaf (rleaf_rel hu h e)
    cases h <;> exact key _ rfl
theorem rcells_rel {vs : List V} {vs' : List Value} (h : F2 (RC σ) vs vs') : F2 (RC τ) (rcells ρ vs) vs' := by
  induction h with
  | nil => exact .nil
  | cons h1 _ ih => exact .cons (rcell_rel hu h1) ih
theorem rval_rel {v : V} {v' : Value} (h : RV σ v v') : RV τ (rval ρ v) v' := by
  cases h with
  | agg h => exact .agg (rcells_rel hu h)
  | cell h =>
    have := rcell_rel hu h
    cases v <;> first
      | exact .cell this
      | (cases h; rename_i h; cases h)
theorem rvals_rel {vs : List V} {vs' : List Value} (h : F2 (RV σ) vs vs') : F2 (RV τ) (rvals ρ vs) vs' := by
  induction h with
  | nil => exact .nil
  | cons h1 _ ih => exact .cons (rval_rel hu h1) ih
theorem rtmp_rel {v : V} {v' : Value} (h : RT σ v v') : RT τ (rtmp ρ v) v' := by
  cases h with
  | tup h => exact .tup (rvals_rel hu h)
  | val h =>
    have := rval_rel hu h
    cases v <;> first
      | exact .val this
      | (cases h; rename_i h; cases h; rename_i h; cases h)
end

/-! ### Objects -/
def SameO (ρ : Nat → Option Nat) : O → Prop
  | .cells c _ _ => ∀ v ∈ c, rcell ρ v = v
  | .map es _ => ∀ x ∈ es, rval ρ x.2.1 = x.2.1
  | .sit _ _ => True
  | .loop _ _ t n _ _ _ d => (∀ i, i < n → rtmp ρ ((t.get i).getD undefV) = (t.get i).getD undefV) ∧ ρ d = some d
  | .dfr => True
  | .dead => True

theorem F2.mono_mem {α β : Type} {R R' : α → β → Prop} {as : List α} {bs : List β} (f : F2 R as bs) : (∀ a b, a ∈ as → R a b → R' a b) → F2 R' as bs := by
  induction f with
  | nil => intro _; exact .nil
  | cons h _ ih => intro k; exact .cons (k _ _ (List.mem_cons_self ..) h) (ih fun a b ha => k a b (List.mem_cons_of_mem _ ha))

theorem SameO.rel {σ τ : Ren} {ρ : Nat → Option Nat} (hu : Under σ τ ρ) {o : O} {o' : Obj} (hs : SameO ρ o) (h : OR σ o o') : OR τ o o' := by
  cases h with
  | cells hl h0 hc =>
    refine .cells hl h0 fun i v hv => ?_
    obtain ⟨v', h1, h2⟩ := hc i v hv
    refine ⟨v', h1, ?_⟩
    have := rcell_rel hu h2
    rw [hs v (List.mem_of_getElem? hv)] at this
    exact this
  | map hm =>
    refine .map (F2.mono_mem hm fun x e hx he => ⟨he.key, ?_, he.born⟩)
    have := rval_rel hu he.val
    rw [hs x hx] at this
    exact this
  | sit => exact .sit
  | loop ht hd =>
    refine .loop ⟨ht.size, fun i hi => ?_⟩ (hu _ _ _ hs.2 hd).1
    have := rtmp_rel hu (ht.at_ i hi)
    rw [hs.1 i hi] at this
    exact this
  | dfr => exact .dfr

def robj (ρ : Nat → Option Nat) : O → O
  | .cells c e sp => .cells (rcells ρ c) e sp
  | .sit s p => .sit s p
  | .dfr => .dfr
  | _ => .dead
theorem rcells_length (ρ : Nat → Option Nat) (c : List V) : (rcells ρ c).length = c.length := by
  induction c with
  | nil => rfl
  | cons v r ih => show (rcells ρ r).length + 1 = _; rw [ih]; rfl
theorem rcells_get (ρ : Nat → Option Nat) : ∀ (c : List V) (i : Nat), (rcells ρ c)[i]? = (c[i]?).map (rcell ρ) := by
  intro c
  induction c with
  | nil => intro i; rfl
  | cons v r ih =>
    intro i
    cases i with
    | zero => rfl
    | succ i => show (rcells ρ r)[i]? = _; rw [ih]; rfl
theorem robj_rel {σ τ : Ren} {ρ : Nat → Option Nat} (hu : Under σ τ ρ) {o : O} {o' : Obj} (ha : (robj ρ o).alive = true) (h : OR σ o o') : OR τ (robj ρ o) o' := by
  cases h with
  | cells hl h0 hc =>
    refine .cells (by rw [rcells_length]; exact hl) (fun h => by rw [rcells_length]; exact h0 h) fun i v hv => ?_
    rw [rcells_get] at hv
    cases hci : (‹List V›)[i]? with
    | none => rw [hci] at hv; cases hv
    | some u =>
      rw [hci] at hv
      cases hv
      obtain ⟨v', h1, h2⟩ := hc i u hci
      exact ⟨v', h1, rcell_rel hu h2⟩
  | map hm => cases ha
  | sit => exact .sit
  | loop ht hd => cases ha
  | dfr => exact .dfr

/-! ### Frames, heaps -/
def btr (d : Nat) : (Nat → Option V) → Tr V :=
  Nat.rec (motive := fun _ => (Nat → Option V) → Tr V) (fun _ => .nil) (fun _ ih f => .node (f 0) (ih fun i => f (2 * i + 1)) (ih fun i => f (2 * i + 2))) d
def deep (n : Nat) : Nat := Nat.log2 (n + 1) + 1
/-- A frame, one temporary after another. -/
def fr (l : List V) : Tr V := btr (deep l.length) fun i => l[i]?

theorem btr_get : ∀ (d : Nat) (f : Nat → Option V) (i : Nat), i + 1 < 2 ^ d → (btr d f).get i = f i := by
  intro d
  induction d with
  | zero => intro f i h; simp at h
  | succ d ih =>
    intro f i h
    show (Tr.node (f 0) (btr d fun i => f (2 * i + 1)) (btr d fun i => f (2 * i + 2))).get i = f i
    rw [Tr.get_node]
    have e1 : ∀ a : Nat, Nat.beq a 0 = decide (a = 0) := fun a => by cases a <;> rfl
    have e2 : Nat.beq (i % 2) 1 = decide (i % 2 = 1) := by rcases Nat.mod_two_eq_zero_or_one i with h | h <;> rw [h] <;> rfl
    rw [e1, e2]
    rw [Nat.pow_succ] at h
    by_cases h0 : i = 0
    · simp [h0]
    · by_cases h1 : i % 2 = 1
      · simp only [h0, h1, decide_false, decide_true, cond_false, cond_true]
        rw [ih _ _ (by omega)]
        congr 1; omega
      · simp only [h0, h1, decide_false, cond_false]
        rw [ih _ _ (by omega)]
        congr 1; omega
theorem fr_get {l : List V} {i : Nat} (h : i < l.length) : (fr l).get i = l[i]? := by
  unfold fr
  refine btr_get _ _ _ ?_
  unfold deep
  have := Nat.lt_log2_self (n := l.length + 1)
  omega

def mkH (l : List (Nat × O)) : Tr O := List.rec (motive := fun _ => Tr O) .nil (fun x _ t => t.set x.1 x.2) l
theorem mkH_get : ∀ (l : List (Nat × O)) (j : Nat) (o : O), (mkH l).get j = some o → (j, o) ∈ l := by
  intro l
  induction l with
  | nil => intro j o h; cases h
  | cons x r ih =>
    intro j o h
    have h : ((mkH r).set x.1 x.2).get j = some o := h
    rw [Tr.get_set] at h
    by_cases hj : j = x.1
    · rw [if_pos hj] at h; cases h; subst hj; exact List.mem_cons_self ..
    · rw [if_neg hj] at h; exact List.mem_cons_of_mem _ (ih j o h)

/-! ### Less of a state -/
def lookO (l : List (Nat × Nat × Bool)) (i : Nat) : Option Nat :=
  List.rec (motive := fun _ => Option Nat) none (fun x _ r => bif Nat.beq x.1 i then some x.2.1 else r) l
def lookN (l : List (Nat × Nat × Bool)) (j : Nat) : Option Nat :=
  List.rec (motive := fun _ => Option Nat) none (fun x _ r => bif Nat.beq x.2.1 j then some x.1 else r) l
def Wk.ρ (k : Wk) (i : Nat) : Option Nat := bif Nat.blt i k.B then some i else lookO k.L i
def Wk.ok (k : Wk) (E : Env) : Bool :=
  Nat.ble E.G E.R && Nat.ble E.R k.B && Nat.ble k.B k.n && k.L.all fun x => Nat.blt x.2.1 k.n && (bif Nat.blt x.2.1 k.B then Nat.beq x.1 x.2.1 else Nat.ble k.B x.1) && k.L.all fun y => (bif Nat.beq x.2.1 y.2.1 then Nat.beq x.1 y.1 else !(Nat.beq x.1 y.1))
def Wk.ren (k : Wk) (σ : Ren) : Ren :=
  ⟨fun j => match lookN k.L j with | some i => σ i | none => bif Nat.blt j k.B then σ j else none, fun j => match lookN k.L j with | some i => σ.z i | none => σ.z j⟩

def inList (l : List Nat) (i : Nat) : Bool := List.rec (motive := fun _ => Bool) false (fun x _ r => bif Nat.beq x i then true else r) l

def Wk.slot (k : Wk) (t : Tr V) (i : Nat) : V :=
  bif inList k.fixed i then (t.get i).getD undefV else bif inList k.keep i then rtmp k.ρ ((t.get i).getD undefV) else .unk
def Wk.frame (k : Wk) (t : Tr V) (n : Nat) : List V := (List.range n).map (k.slot t)
def Wk.fixC (k : Wk) (t : Tr V) (n : Nat) : List Prop := k.fixed.map fun i => rtmp k.ρ ((t.get i).getD undefV) = (t.get i).getD undefV
def Wk.heap (k : Wk) (h : Hp) (L : List (Nat × Nat × Bool)) : Option (List (Nat × O) × List Prop) :=
  List.rec (motive := fun _ => Option (List (Nat × O) × List Prop)) (some ([], [])) (fun x _ r => match h.at_ x.1, r with
    | some o, some (l, C) => bif x.2.2 then some ((x.2.1, o) :: l, SameO k.ρ o :: C) else some ((x.2.1, robj k.ρ o) :: l, C)
    | _, _ => none) L
def Wk.marks (k : Wk) (d : List Nat) : Option (List Nat) :=
  List.rec (motive := fun _ => Option (List Nat)) (some []) (fun D _ r => match k.ρ D, r with
    | some D', some l => some (D' :: l)
    | _, _ => none) d

def wk (E : Env) (k : Wk) (st : St) : Option (St × List Prop) :=
  bif k.ok E then (match k.heap st.h k.L, k.marks st.d with
    | some (l, C), some d => some (⟨fr (k.frame st.t st.n), st.n, ⟨k.n, mkH l⟩, d⟩, k.fixC st.t st.n ++ C)
    | _, _ => none) else none

theorem lookO_mem : ∀ {l : List (Nat × Nat × Bool)} {i j : Nat}, lookO l i = some j → ∃ s, (i, j, s) ∈ l := by
  intro l
  induction l with
  | nil => intro i j h; cases h
  | cons x r ih =>
    intro i j h
    change (bif Nat.beq x.1 i then some x.2.1 else lookO r i) = some j at h
    cases hb : Nat.beq x.1 i with
    | true =>
      rw [hb] at h
      cases h
      have := beq_iff.1 hb
      subst this
      exact ⟨x.2.2, List.mem_cons_self ..⟩
    | false =>
      rw [hb] at h
      obtain ⟨s, hs⟩ := ih h
      exact ⟨s, List.mem_cons_of_mem _ hs⟩
theorem lookN_mem : ∀ {l : List (Nat × Nat × Bool)} {i j : Nat}, lookN l j = some i → ∃ s, (i, j, s) ∈ l := by
  intro l
  induction l with
  | nil => intro i j h; cases h
  | cons x r ih =>
    intro i j h
    change (bif Nat.beq x.2.1 j then some x.1 else lookN r j) = some i at h
    cases hb : Nat.beq x.2.1 j with
    | true =>
      rw [hb] at h
      cases h
      have := beq_iff.1 hb
      subst this
      exact ⟨x.2.2, List.mem_cons_self ..⟩
    | false =>
      rw [hb] at h
      obtain ⟨s, hs⟩ := ih h
      exact ⟨s, List.mem_cons_of_mem _ hs⟩
theorem lookN_none : ∀ {l : List (Nat × Nat × Bool)} {j : Nat}, lookN l j = none → ∀ x ∈ l, x.2.1 ≠ j := by
  intro l
  induction l with
  | nil => intro j _ x hx; cases hx
  | cons y r ih =>
    intro j h x hx
    change (bif Nat.beq y.2.1 j then some y.1 else lookN r j) = none at h
    cases hb : Nat.beq y.2.1 j with
    | true => rw [hb] at h; cases h
    | false =>
      rw [hb] at h
      rcases List.mem_cons.1 hx with rfl | hx
      · intro e; rw [beq_iff.2 e] at hb; cases hb
      · exact ih h x hx

structure Wk.Good (k : Wk) (E : Env) : Prop where
  g : E.G ≤ E.R
  r : E.R ≤ k.B
  b : k.B ≤ k.n
  lt : ∀ x ∈ k.L, x.2.1 < k.n
  low : ∀ x ∈ k.L, x.2.1 < k.B → x.1 = x.2.1
  high : ∀ x ∈ k.L, k.B ≤ x.2.1 → k.B ≤ x.1
  inj : ∀ x ∈ k.L, ∀ y ∈ k.L, (x.2.1 = y.2.1 ↔ x.1 = y.1)

theorem Wk.good {k : Wk} {E : Env} (h : k.ok E = true) : k.Good E := by
  unfold Wk.ok at h
  simp only [Bool.and_eq_true, List.all_eq_true] at h
  obtain ⟨⟨⟨h1, h2⟩, h3⟩, h4⟩ := h
  refine ⟨Nat.le_of_ble_eq_true h1, Nat.le_of_ble_eq_true h2, Nat.le_of_ble_eq_true h3, fun x hx => blt_iff.1 (h4 x hx).1.1, fun x hx hlt => ?_, fun x hx hge => ?_, fun x hx y hy => ?_⟩
  · have := (h4 x hx).1.2
    rw [blt_iff.2 hlt] at this
    exact beq_iff.1 this
  · have := (h4 x hx).1.2
    have hb : Nat.blt x.2.1 k.B = false := by
      cases hh : Nat.blt x.2.1 k.B with
      | false => rfl
      | true => have := blt_iff.1 hh; omega
    rw [hb] at this
    exact Nat.le_of_ble_eq_true this
  · have := (h4 x hx).2 y hy
    cases hb : Nat.beq x.2.1 y.2.1 with
    | true => rw [hb] at this; exact ⟨fun _ => beq_iff.1 this, fun _ => beq_iff.1 hb⟩
    | false =>
      rw [hb] at this
      refine ⟨fun e => ?_, fun e => ?_⟩
      · rw [beq_iff.2 e] at hb; cases hb
      · rw [beq_iff.2 e] at this; cases this

section
variable {E : Env} {k : Wk} {σ : Ren}
theorem Wk.ren_of (g : k.Good E) {x : Nat × Nat × Bool} (hx : x ∈ k.L) : (k.ren σ) x.2.1 = σ x.1 ∧ (k.ren σ).z x.2.1 = σ.z x.1 := by
  unfold Wk.ren
  simp only
  cases hl : lookN k.L x.2.1 with
  | none => exact absurd rfl (lookN_none hl x hx)
  | some i =>
    obtain ⟨s, hs⟩ := lookN_mem hl
    have := (g.inj _ hs x hx).1 rfl
    simp only at this
    subst this
    exact ⟨rfl, rfl⟩
theorem Wk.ren_low (g : k.Good E) {j : Nat} (hj : j < k.B) : (k.ren σ) j = σ j ∧ (k.ren σ).z j = σ.z j := by
  unfold Wk.ren
  simp only
  cases hl : lookN k.L j with
  | none => simp only [blt_iff.2 hj, cond_true, and_self]
  | some i =>
    obtain ⟨s, hs⟩ := lookN_mem hl
    have := g.low _ hs hj
    simp only at this
    subst this
    exact ⟨rfl, rfl⟩
theorem Wk.under (g : k.Good E) : Under σ (k.ren σ) k.ρ := by
  intro i j b hρ hσ
  unfold Wk.ρ at hρ
  cases hb : Nat.blt i k.B with
  | true =>
    rw [hb] at hρ
    cases hρ
    have := Wk.ren_low (σ := σ) g (blt_iff.1 hb)
    exact ⟨this.1.trans hσ, this.2⟩
  | false =>
    rw [hb] at hρ
    obtain ⟨s, hs⟩ := lookO_mem hρ
    have := Wk.ren_of (σ := σ) g hs
    exact ⟨this.1.trans hσ, this.2⟩
theorem Wk.ren_inv (g : k.Good E) {j b : Nat} (h : (k.ren σ) j = some b) : (∃ i s, (i, j, s) ∈ k.L ∧ σ i = some b) ∨ ((∀ x ∈ k.L, x.2.1 ≠ j) ∧ j < k.B ∧ σ j = some b) := by
  unfold Wk.ren at h
  simp only at h
  cases hl : lookN k.L j with
  | some i =>
    rw [hl] at h
    obtain ⟨s, hs⟩ := lookN_mem hl
    exact .inl ⟨i, s, hs, h⟩
  | none =>
    rw [hl] at h
    simp only at h
    cases hb : Nat.blt j k.B with
    | false => rw [hb] at h; cases h
    | true => rw [hb] at h; exact .inr ⟨lookN_none hl, blt_iff.1 hb, h⟩
theorem Wk.heap_mem {h : Hp} : ∀ {L : List (Nat × Nat × Bool)} {l : List (Nat × O)} {C : List Prop}, k.heap h L = some (l, C) → AllP C → ∀ j o, (j, o) ∈ l → ∃ x ∈ L, x.2.1 = j ∧ ∃ o0, h.at_ x.1 = some o0 ∧ ((o = o0 ∧ SameO k.ρ o0) ∨ o = robj k.ρ o0) := by
  intro L
  induction L with
  | nil => intro l C e _ j o hm; cases e; cases hm
  | cons x r ih =>
    intro l C e hC j o hm
    change (match h.at_ x.1, k.heap h r with
      | some o, some (l, C) => bif x.2.2 then some ((x.2.1, o) :: l, SameO k.ρ o :: C) else some ((x.2.1, robj k.ρ o) :: l, C)
      | _, _ => none) = _ at e
    split at e
    · rename_i o0 l0 C0 h1 h2
      cases hs : x.2.2 with
      | true =>
        rw [hs] at e
        cases e
        obtain ⟨c1, c2⟩ := AllP.cons hC
        rcases List.mem_cons.1 hm with hm | hm
        · cases hm
          exact ⟨x, List.mem_cons_self .., rfl, _, h1, .inl ⟨rfl, c1⟩⟩
        · obtain ⟨y, hy, k1, k2⟩ := ih h2 c2 j o hm
          exact ⟨y, List.mem_cons_of_mem _ hy, k1, k2⟩
      | false =>
        rw [hs] at e
        cases e
        rcases List.mem_cons.1 hm with hm | hm
        · cases hm
          exact ⟨x, List.mem_cons_self .., rfl, _, h1, .inr rfl⟩
        · obtain ⟨y, hy, k1, k2⟩ := ih h2 hC j o hm
          exact ⟨y, List.mem_cons_of_mem _ hy, k1, k2⟩
    · cases e
theorem Wk.marks_rel (hu : Under σ (k.ren σ) k.ρ) : ∀ {d d' : List Nat} {ds : List Deferred}, k.marks d = some d' → F2 (fun (D : Nat) (x : Deferred) => ∃ D', σ D = some D' ∧ x = { target := .collected D', args := #[] }) d ds →
    F2 (fun (D : Nat) (x : Deferred) => ∃ D', (k.ren σ) D = some D' ∧ x = { target := .collected D', args := #[] }) d' ds := by
  intro d
  induction d with
  | nil => intro d' ds e h; cases e; cases h; exact .nil
  | cons D r ih =>
    intro d' ds e h
    cases h with
    | cons h1 h2 =>
      change (match k.ρ D, k.marks r with
        | some D', some l => some (D' :: l)
        | _, _ => none) = _ at e
      split at e
      · rename_i D' l e1 e2
        cases e
        obtain ⟨b, hb, hx⟩ := h1
        exact .cons ⟨b, (hu _ _ _ e1 hb).1, hx⟩ (ih e2 h2)
      · cases e

theorem robj_alive {ρ : Nat → Option Nat} {o : O} (h : (robj ρ o).alive = true) : o.alive = true := by cases o <;> first | rfl | cases h

theorem SR.wk {w0 : World} {st st2 : St} {C : List Prop} {a : Act} {w : World} (e : SM.wk E k st = some (st2, C)) (hC : AllP C) (s : SR E w0 σ st a w) : ∃ τ, Ren.leB k.B σ τ ∧ SR E w0 τ st2 a w := by
  unfold SM.wk at e
  cases hok : k.ok E with
  | false => rw [hok] at e; cases e
  | true =>
  rw [hok] at e
  simp only [cond_true] at e
  have g := Wk.good hok
  split at e
  · rename_i l C1 d h1 h2
    cases e
    obtain ⟨c1, c2⟩ := AllP.app hC
    have hu := Wk.under (σ := σ) g
    refine ⟨k.ren σ, fun i b hi hb => ?_, ?_⟩
    · have := Wk.ren_low (σ := σ) g hi
      exact ⟨this.1.trans hb, this.2⟩
    · have hat : ∀ j o, (⟨k.n, mkH l⟩ : Hp).at_ j = some o → ∃ x ∈ k.L, x.2.1 = j ∧ ∃ o0, st.h.at_ x.1 = some o0 ∧ ((o = o0 ∧ SameO k.ρ o0) ∨ o = robj k.ρ o0) := fun j o h => Wk.heap_mem h1 c2 j o (mkH_get _ _ _ h)
      have alive : ∀ {o o0 : O}, ((o = o0 ∧ SameO k.ρ o0) ∨ o = robj k.ρ o0) → o.alive = true → o0.alive = true := fun h ha => by
        rcases h with ⟨rfl, _⟩ | rfl
        · exact ha
        · exact robj_alive ha
      have r := s.wr
      refine ⟨⟨fun j hj => ?_, fun j b o ej hj hv => ?_, fun j b ej hj => ?_, fun j b ej hj => ?_, fun j b c e sp c' e' f ej hg hj hw => ?_, fun i j b p q gi gj ei ej hi hpi hj hpj => ?_, r.below, Nat.le_trans g.r g.b, fun j b c e sp c' e' f ej hj hw => ?_⟩, ⟨s.tr.size, fun i hi => ?_⟩, Wk.marks_rel hu h2 s.mr, fun i hi => ?_⟩
      · cases hx : (k.ren σ) j with
        | none => rfl
        | some b =>
          rcases Wk.ren_inv g hx with ⟨i, s, hm, _⟩ | ⟨_, hlt, _⟩
          · have h1 : j < k.n := g.lt _ hm
            have hj : k.n ≤ j := hj
            omega
          · have hj : k.n ≤ j := hj
            have := g.b
            omega
      · obtain ⟨x, hx, hxj, o0, ho0, hcase⟩ := hat j o hj
        subst hxj
        rw [(Wk.ren_of (σ := σ) g hx).1] at ej
        obtain ⟨o', q1, q2⟩ := r.obj _ _ _ ej ho0 (alive hcase hv)
        refine ⟨o', q1, ?_⟩
        rcases hcase with ⟨rfl, hs⟩ | rfl
        · exact hs.rel hu q2
        · exact robj_rel hu hv q2
      · rcases Wk.ren_inv g ej with ⟨i, s, hm, hi⟩ | ⟨_, hlt, hi⟩
        · refine r.own i b hi ?_
          by_cases hjB : j < k.B
          · have := g.low _ hm hjB; simp only at this; omega
          · have := g.high _ hm (by simp only; omega); have := g.r; simp only at *; omega
        · exact r.own j b hi hj
      · have hjB : j < k.B := Nat.lt_of_lt_of_le hj g.r
        rw [(Wk.ren_low (σ := σ) g hjB).1] at ej
        exact r.old j b ej hj
      · obtain ⟨x, hx, hxj, o0, ho0, hcase⟩ := hat j _ hj
        subst hxj
        rw [(Wk.ren_of (σ := σ) g hx).1] at ej
        have hge : E.R ≤ x.1 := by
          by_cases hjB : x.2.1 < k.B
          · have := g.low _ hx hjB; omega
          · have := g.high _ hx (by omega); have := g.r; omega
        rcases hcase with ⟨rfl, hs⟩ | ho
        · exact r.calm _ _ _ _ _ _ _ _ ej hge ho0 hw
        · cases o0 <;> simp only [robj] at ho <;> try (cases ho; done)
          exact r.calm _ _ _ _ _ _ _ _ ej hge ho0 hw
      · obtain ⟨x, hx, hxi, o0, ho0, hcase⟩ := hat i _ hi
        obtain ⟨y, hy, hyj, o1, ho1, hcase1⟩ := hat j _ hj
        subst hxi; subst hyj
        rw [(Wk.ren_of (σ := σ) g hx).1] at ei
        rw [(Wk.ren_of (σ := σ) g hy).1] at ej
        have ge : ∀ {z : Nat × Nat × Bool}, z ∈ k.L → E.R ≤ z.2.1 → E.R ≤ z.1 := fun {z} hz hzr => by
          by_cases hjB : z.2.1 < k.B
          · have := g.low _ hz hjB; omega
          · have := g.high _ hz (by omega); have := g.r; omega
        have := r.injG _ _ _ _ _ (ge hx gi) (ge hy gj) ei ej ho0 (alive hcase hpi) ho1 (alive hcase1 hpj)
        exact (g.inj x hx y hy).2 this
      · obtain ⟨x, hx, hxj, o0, ho0, hcase⟩ := hat j _ hj
        subst hxj
        rw [(Wk.ren_of (σ := σ) g hx).1] at ej
        rw [(Wk.ren_of (σ := σ) g hx).2]
        rcases hcase with ⟨rfl, hs⟩ | ho
        · exact r.size _ _ _ _ _ _ _ _ ej ho0 hw
        · cases o0 <;> simp only [robj] at ho <;> try (cases ho; done)
          exact r.size _ _ _ _ _ _ _ _ ej ho0 hw
      · have hlen : i < (k.frame st.t st.n).length := by unfold Wk.frame; simpa using hi
        simp only
        rw [fr_get hlen]
        have hget : (k.frame st.t st.n)[i]? = some (k.slot st.t i) := by
          unfold Wk.frame
          rw [List.getElem?_map, List.getElem?_range hi]
          rfl
        rw [hget]
        simp only [Option.getD_some]
        have hrt := rtmp_rel hu (s.tr.at_ i hi)
        unfold Wk.slot
        cases hf : inList k.fixed i with
        | true =>
          simp only [cond_true]
          have : rtmp k.ρ ((st.t.get i).getD undefV) = (st.t.get i).getD undefV := by
            have hmem : ∀ (l : List Nat), inList l i = true → i ∈ l := by
              intro l
              induction l with
              | nil => intro h; cases h
              | cons y r ih =>
                intro h
                change (bif Nat.beq y i then true else inList r i) = true at h
                cases hb : Nat.beq y i with
                | true => have := beq_iff.1 hb; subst this; exact List.mem_cons_self ..
                | false => rw [hb] at h; exact List.mem_cons_of_mem _ (ih h)
            have allmem : ∀ (l : List Prop), AllP l → ∀ p ∈ l, p := by
              intro l
              induction l with
              | nil => intro _ p hp; cases hp
              | cons y r ih =>
                intro h p hp
                obtain ⟨q1, q2⟩ := AllP.cons h
                rcases List.mem_cons.1 hp with rfl | hp
                · exact q1
                · exact ih q2 p hp
            exact allmem _ c1 _ (List.mem_map.2 ⟨i, hmem _ hf, rfl⟩)
          rw [this] at hrt
          exact hrt
        | false =>
          simp only [cond_false]
          cases hk : inList k.keep i with
          | true => exact hrt
          | false => exact .val (.cell .unk)
      · have hiB : i < k.B := Nat.lt_of_lt_of_le hi (Nat.le_trans g.g g.r)
        exact (Wk.ren_low (σ := σ) g hiB).1.trans (s.gr i hi)
  · cases e
end

section
variable {E : Env} {k : Wk} {w0 : World} {out : Bool} {c : Code} {st s s2 st2 : St} {q : Xt} {C : List Prop}
theorem Tri.wk (e : SM.wk E k st = some (st2, C)) (hC : AllP C) (h : Tri E w0 k.B out c st2 q s) : Tri E w0 k.B out c st q s := by
  intro ro hout σ a w m Q hs hQ
  obtain ⟨τ, h1, h2⟩ := hs.wk e hC
  exact h ro hout τ a w m Q h2 fun σ' a' w' hle hs' => hQ σ' a' w' (Ren.leB_trans h1 hle) hs'
theorem LTri.wk (e : SM.wk E k st = some (st2, C)) (hC : AllP C) (h : LTri E w0 k.B out c st2 q s) : LTri E w0 k.B out c st q s := by
  intro ro hout σ a w m Q hs hQ
  obtain ⟨τ, h1, h2⟩ := hs.wk e hC
  exact h ro hout τ a w m Q h2 fun σ' a' w' hle hs' => hQ σ' a' w' (Ren.leB_trans h1 hle) hs'
theorem Tri.post (h : Tri E w0 k.B out c st q s) (e : SM.wk E k s = some (s2, C)) (hC : AllP C) : Tri E w0 k.B out c st q s2 := by
  intro ro hout σ a w m Q hs hQ
  refine h ro hout σ a w m Q hs fun σ' a' w' hle hs' => ?_
  obtain ⟨τ, h1, h2⟩ := hs'.wk e hC
  exact hQ τ a' w' (Ren.leB_trans hle h1) h2
end
end
end Go.Proofs.YtmlfcaaecofnjaaGreatDoor.SM
