/- The evaluator's heap, and what it says of the machine's world. -/
import Derived.Test.YtmlfcaaecofnjaaGreatDoorSm1
import Derived.Laws.Cells
import Derived.Laws.Rows
import Derived.Laws.CopyRow
import Derived.Laws.Append
import Derived.Deep.Draws
set_option linter.unusedVariables false
set_option linter.unusedSimpArgs false
namespace Go.Proofs.YtmlfcaaecofnjaaGreatDoor.SM
open Go Go.RowKit
noncomputable section

def undefV : V := .tup []

inductive O where
  | cells (c : List V) (e : TypeId) (sp : Bool)
  | map (es : List (Value × V × Nat)) (clk : Nat)
  | sit (s : ByteArray) (pos : Nat)
  | loop (st : LoopState) (pend : Option Code) (t : Tr V) (n : Nat) (ps : List Tmp) (as bd : Code) (d : Nat)
  | dfr
  | dead

def O.alive : O → Bool
  | .dead => false
  | _ => true

structure Hp where
  n : Nat
  t : Tr O

def Hp.at_ (h : Hp) (i : Nat) : Option O := h.t.get i
def Hp.put (h : Hp) (i : Nat) (o : O) : Hp := ⟨h.n, h.t.set i o⟩
def Hp.new (h : Hp) (o : O) : Hp := ⟨h.n + 1, h.t.set h.n o⟩

theorem Hp.at_put (h : Hp) (i j : Nat) (o : O) : (h.put i o).at_ j = if j = i then some o else h.at_ j := Tr.get_set ..
theorem Hp.at_new (h : Hp) (j : Nat) (o : O) : (h.new o).at_ j = if j = h.n then some o else h.at_ j := Tr.get_set ..

/-- The temporaries of a frame. -/
structure TR (σ : Ren) (t : Tr V) (n : Nat) (tmps : Array Value) : Prop where
  size : tmps.size = n
  at_ : ∀ i, i < n → RT σ ((t.get i).getD undefV) (tmps.getD i undef)

theorem RT.undef (σ : Ren) : RT σ undefV undef := .tup .nil

theorem TR.mono {σ τ : Ren} (h : Ren.le σ τ) {t : Tr V} {n : Nat} {tmps : Array Value} (r : TR σ t n tmps) : TR τ t n tmps := ⟨r.size, fun i hi => (r.at_ i hi).mono h⟩

theorem TR.set {σ : Ren} {t : Tr V} {n : Nat} {tmps : Array Value} (r : TR σ t n tmps) {d : Nat} {v : V} {v' : Value} (h : RT σ v v') (hd : d < n) : TR σ (t.set d v) n (tmps.setIfInBounds d v') := by
  refine ⟨by simpa using r.size, fun i hi => ?_⟩
  rw [Tr.get_set]
  have hs := r.size
  by_cases e : i = d
  · subst e
    simp only [if_true, Option.getD_some]
    rw [Array.getD_eq_getD_getElem?]
    simp [hs, hi]
    exact h
  · rw [if_neg e]
    have := r.at_ i hi
    rw [Array.getD_eq_getD_getElem?] at this ⊢
    rw [Array.getElem?_setIfInBounds_ne (Ne.symm e)]
    exact this

structure ER (σ : Ren) (x : Value × V × Nat) (e : MapEntry) : Prop where
  key : e.key = x.1
  val : RV σ x.2.1 e.val
  born : e.born = x.2.2

/-- No cell of the row is frozen. -/
def Calm (f : Nat × Nat) (n : Nat) : Prop := f = (0, 0) ∨ f = (n, n + 1)

inductive OR (σ : Ren) : O → Obj → Prop where
  | cells {c : List V} {c' : Array Value} {e : TypeId} {sp : Bool} {f : Nat × Nat} (hl : c.length ≤ c'.size) (hs : sp = false → c.length = c'.size)
      (h : ∀ (i : Nat) (v : V), c[i]? = some v → ∃ v' : Value, c'[i]? = some v' ∧ RC σ v v') : OR σ (.cells c e sp) (.cells c' e f)
  | map {es : List (Value × V × Nat)} {es' : Array MapEntry} {clk : Nat} (h : F2 (ER σ) es es'.toList) : OR σ (.map es clk) (.map es' clk)
  | sit {s : ByteArray} {pos : Nat} : OR σ (.sit s pos) (.stringIter s pos)
  | loop {st : LoopState} {pend : Option Code} {t : Tr V} {n : Nat} {ps : List Tmp} {as bd : Code} {d d' : Nat} {fn : FuncId} {tmps : Array Value} (ht : TR σ t n tmps) (hd : σ d = some d') :
      OR σ (.loop st pend t n ps as bd d) (.loop { state := st, pending := pend, fn := fn, tmps := tmps, params := ⟨ps⟩, assign := as, body := bd, defers := d' })
  | dfr : OR σ .dfr (.deferred (some []))

theorem OR.mono {σ τ : Ren} (h : Ren.le σ τ) {o : O} {o' : Obj} (r : OR σ o o') : OR τ o o' := by
  cases r with
  | cells hl hs hc => exact .cells hl hs fun i v hv => let ⟨v', h1, h2⟩ := hc i v hv; ⟨v', h1, h2.mono h⟩
  | map hm => exact .map (hm.mono fun _ _ e => ⟨e.key, e.val.mono h, e.born⟩)
  | sit => exact .sit
  | loop ht hd => exact .loop (ht.mono h) (h _ _ hd).1
  | dfr => exact .dfr

structure WR (G : Nat) (w0 : World) (σ : Ren) (h : Hp) (w : World) : Prop where
  fresh : ∀ i, h.n ≤ i → σ i = none
  obj : ∀ i b o, σ i = some b → h.at_ i = some o → o.alive = true → ∃ o', w.heap[b]? = some o' ∧ OR σ o o'
  own : ∀ i b, σ i = some b → G ≤ i → w0.heap.size ≤ b
  old : ∀ i b, σ i = some b → i < G → b < w0.heap.size
  calm : ∀ (i b : Nat) (c : List V) (e : TypeId) (sp : Bool) (c' : Array Value) (e' : TypeId) (f : Nat × Nat), σ i = some b → G ≤ i → h.at_ i = some (.cells c e sp) → w.heap[b]? = some (.cells c' e' f) → Calm f c'.size
  injG : ∀ i j b o p, G ≤ i → G ≤ j → σ i = some b → σ j = some b → h.at_ i = some o → o.alive = true → h.at_ j = some p → p.alive = true → i = j
  below : Below w0.heap.size w0 w
  low : G ≤ h.n
  size : ∀ (i b : Nat) (c : List V) (e : TypeId) (sp : Bool) (c' : Array Value) (e' : TypeId) (f : Nat × Nat), σ i = some b → h.at_ i = some (.cells c e sp) → w.heap[b]? = some (.cells c' e' f) → c'.size = σ.z i

section
variable {G : Nat} {w0 : World} {σ : Ren} {h : Hp} {w : World}

theorem WR.inj (r : WR G w0 σ h w) (i j b : Nat) (o p : O) (hg : G ≤ i ∨ G ≤ j) (ei : σ i = some b) (ej : σ j = some b) (hi : h.at_ i = some o) (ho : o.alive = true) (hj : h.at_ j = some p) (hp : p.alive = true) : i = j := by
  by_cases h1 : G ≤ i
  · by_cases h2 : G ≤ j
    · exact r.injG i j b o p h1 h2 ei ej hi ho hj hp
    · have := r.old j b ej (by omega); have := r.own i b ei h1; omega
  · by_cases h2 : G ≤ j
    · have := r.old i b ei (by omega); have := r.own j b ej h2; omega
    · omega

theorem WR.drew (r : WR G w0 σ h w) : WR G w0 σ h w.drew := ⟨r.fresh, r.obj, r.own, r.old, r.calm, r.injG, r.below.drew, r.low, r.size⟩
theorem WR.drewn (r : WR G w0 σ h w) : WR G w0 σ h { w with drawn := w.drawn + 1 } := r.drew

def Ren.upd (σ : Ren) (i b z : Nat) : Ren := ⟨fun j => if j = i then some b else σ j, fun j => if j = i then z else σ.z j⟩
theorem Ren.upd_same (σ : Ren) (i b z : Nat) : (σ.upd i b z) i = some b := by simp [Ren.upd]
theorem Ren.upd_other (σ : Ren) {i j : Nat} (b z : Nat) (h : j ≠ i) : (σ.upd i b z) j = σ j := by simp [Ren.upd, h]
theorem Ren.updz_same (σ : Ren) (i b z : Nat) : (σ.upd i b z).z i = z := by simp [Ren.upd]
theorem Ren.updz_other (σ : Ren) {i j : Nat} (b z : Nat) (h : j ≠ i) : (σ.upd i b z).z j = σ.z j := by simp [Ren.upd, h]
theorem Ren.le_upd {σ : Ren} {i : Nat} (b z : Nat) (h : σ i = none) : Ren.le σ (σ.upd i b z) := fun j c e => by
  by_cases hj : j = i
  · subst hj; rw [h] at e; cases e
  · rw [Ren.upd_other _ _ _ hj, Ren.updz_other _ _ _ hj]; exact ⟨e, rfl⟩

theorem WR.lt (r : WR G w0 σ h w) {i b : Nat} (e : σ i = some b) : i < h.n := by
  rcases Nat.lt_or_ge i h.n with hl | hl
  · exact hl
  · rw [r.fresh i hl] at e; cases e

theorem WR.blk (r : WR G w0 σ h w) {i b : Nat} {o : O} (e : σ i = some b) (ha : h.at_ i = some o) (hv : o.alive = true) : b < w.heap.size := by
  obtain ⟨o', h1, _⟩ := r.obj i b o e ha hv
  exact (Array.getElem?_eq_some_iff.1 h1).1

/-- A new block. -/
theorem WR.new (r : WR G w0 σ h w) (z : Nat) {o : O} {o' : Obj} (ho : OR (σ.upd h.n w.heap.size z) o o') (hz : ∀ (c : Array Value) (e : TypeId) (f : Nat × Nat), o' = .cells c e f → c.size = z ∧ Calm f c.size) :
    WR G w0 (σ.upd h.n w.heap.size z) (h.new o) (w.alloc o') ∧ Ren.le σ (σ.upd h.n w.heap.size z) := by
  have hle : Ren.le σ (σ.upd h.n w.heap.size z) := Ren.le_upd _ _ (r.fresh _ (Nat.le_refl _))
  have hlow := r.low
  refine ⟨⟨fun i hi => ?_, fun i b p e ha hv => ?_, fun i b e hi => ?_, fun i b e hi => ?_, fun i b c e sp c' e' f ei hg hi hw => ?_, fun i j b p q gi gj ei ej hi hpi hj hpj => ?_, r.below.alloc r.below.size _, Nat.le_succ_of_le r.low, fun i b c e sp c' e' f ei hi hw => ?_⟩, hle⟩
  · have hi' : h.n + 1 ≤ i := hi
    rw [Ren.upd_other _ _ _ (by omega)]; exact r.fresh i (by omega)
  · rw [Hp.at_new] at ha
    by_cases hi : i = h.n
    · subst hi
      rw [Ren.upd_same] at e
      rw [if_pos rfl] at ha
      cases e; cases ha
      exact ⟨o', heap_alloc_new w o', ho⟩
    · rw [Ren.upd_other _ _ _ hi] at e
      rw [if_neg hi] at ha
      obtain ⟨p', h1, h2⟩ := r.obj i b p e ha hv
      exact ⟨p', (heap_alloc_old w o' b (Array.getElem?_eq_some_iff.1 h1).1).trans h1, h2.mono hle⟩
  · by_cases hi' : i = h.n
    · subst hi'; rw [Ren.upd_same] at e; cases e; exact r.below.size
    · rw [Ren.upd_other _ _ _ hi'] at e; exact r.own i b e hi
  · rw [Ren.upd_other _ _ _ (by omega)] at e; exact r.old i b e hi
  · rw [Hp.at_new] at hi
    by_cases h1 : i = h.n
    · subst h1
      rw [Ren.upd_same] at ei; cases ei
      rw [heap_alloc_new] at hw
      cases hw
      exact (hz _ _ _ rfl).2
    · rw [Ren.upd_other _ _ _ h1] at ei
      rw [if_neg h1] at hi
      rw [heap_alloc_old w o' b (r.blk ei hi rfl)] at hw
      exact r.calm i b c e sp c' e' f ei hg hi hw
  · rw [Hp.at_new] at hi hj
    by_cases h1 : i = h.n
    · by_cases h2 : j = h.n
      · rw [h1, h2]
      · subst h1
        rw [Ren.upd_same] at ei; cases ei
        rw [Ren.upd_other _ _ _ h2] at ej
        rw [if_neg h2] at hj
        have := r.blk ej hj hpj
        omega
    · rw [Ren.upd_other _ _ _ h1] at ei
      rw [if_neg h1] at hi
      by_cases h2 : j = h.n
      · subst h2
        rw [Ren.upd_same] at ej; cases ej
        have := r.blk ei hi hpi
        omega
      · rw [Ren.upd_other _ _ _ h2] at ej
        rw [if_neg h2] at hj
        exact r.injG i j b p q gi gj ei ej hi hpi hj hpj
  · rw [Hp.at_new] at hi
    by_cases h1 : i = h.n
    · subst h1
      rw [Ren.upd_same] at ei; cases ei
      rw [heap_alloc_new] at hw
      cases hw
      rw [Ren.updz_same]
      exact (hz _ _ _ rfl).1
    · rw [Ren.upd_other _ _ _ h1] at ei
      rw [if_neg h1] at hi
      rw [Ren.updz_other _ _ _ h1]
      rw [heap_alloc_old w o' b (r.blk ei hi rfl)] at hw
      exact r.size i b c e sp c' e' f ei hi hw

theorem putObj_other {r k : Nat} {o : Obj} (h : k ≠ r) : (w.putObj r o).heap[k]? = w.heap[k]? := World.putObj_heap_other h

theorem below_putObj {B b : Nat} {o : Obj} (hb : Below B w0 w) (h : B ≤ b) : Below B w0 (w.putObj b o) :=
  ⟨hb.os, hb.tape, hb.output, by rw [World.putObj_size]; exact hb.size, fun k hk => (World.putObj_heap_other (by omega)).trans (hb.block k hk)⟩

/-- A block is written. -/
theorem WR.put (r : WR G w0 σ h w) {i b : Nat} {p o : O} {o' : Obj} (e : σ i = some b) (hp : h.at_ i = some p) (hv : p.alive = true) (hg : G ≤ i) (ho : OR σ o o') (hz : ∀ (c : Array Value) (e : TypeId) (f : Nat × Nat), o' = .cells c e f → c.size = σ.z i ∧ Calm f c.size) : WR G w0 σ (h.put i o) (w.putObj b o') := by
  have hb := r.blk e hp hv
  refine ⟨r.fresh, fun j c q ej hj hq => ?_, r.own, r.old, fun j c q e1 sp c' e' f ej hgj hj hw => ?_, fun j k c q s gj gk ej ek hj hq hk hs => ?_, below_putObj r.below (r.own i b e hg), r.low, fun j c q e1 sp c' e' f ej hj hw => ?_⟩
  · rw [Hp.at_put] at hj
    by_cases hij : j = i
    · subst hij
      rw [if_pos rfl] at hj; cases hj
      rw [e] at ej; cases ej
      exact ⟨o', World.putObj_heap_same hb, ho⟩
    · rw [if_neg hij] at hj
      obtain ⟨q', h1, h2⟩ := r.obj j c q ej hj hq
      refine ⟨q', ?_, h2⟩
      rw [World.putObj_heap_other (r := b) (k := c) (fun hcb => hij (r.inj j i b q p (.inr hg) (by rw [← hcb]; exact ej) e hj hq hp hv))]
      exact h1
  · rw [Hp.at_put] at hj
    by_cases hij : j = i
    · subst hij
      rw [e] at ej; cases ej
      rw [World.putObj_heap_same hb] at hw
      cases hw
      exact (hz _ _ _ rfl).2
    · rw [if_neg hij] at hj
      rw [World.putObj_heap_other (r := b) (k := c) (fun hcb => hij (r.inj j i b _ p (.inr hg) (by rw [← hcb]; exact ej) e hj rfl hp hv))] at hw
      exact r.calm j c q e1 sp c' e' f ej hgj hj hw
  · rw [Hp.at_put] at hj hk
    by_cases h1 : j = i
    · by_cases h2 : k = i
      · rw [h1, h2]
      · rw [if_neg h2] at hk
        subst h1
        exact r.injG _ _ c p s gj gk ej ek hp hv hk hs
    · rw [if_neg h1] at hj
      by_cases h2 : k = i
      · subst h2
        exact r.injG _ _ c q p gj gk ej ek hj hq hp hv
      · rw [if_neg h2] at hk
        exact r.injG j k c q s gj gk ej ek hj hq hk hs
  · rw [Hp.at_put] at hj
    by_cases hij : j = i
    · subst hij
      rw [e] at ej; cases ej
      rw [World.putObj_heap_same hb] at hw
      cases hw
      exact (hz _ _ _ rfl).1
    · rw [if_neg hij] at hj
      rw [World.putObj_heap_other (r := b) (k := c) (fun hcb => hij (r.inj j i b _ p (.inr hg) (by rw [← hcb]; exact ej) e hj rfl hp hv))] at hw
      exact r.size j c q e1 sp c' e' f ej hj hw

/-- A block is given up; the world is the same. -/
theorem WR.kill (r : WR G w0 σ h w) (i : Nat) : WR G w0 σ (h.put i .dead) w := by
  refine ⟨r.fresh, fun j c q ej hj hq => ?_, r.own, r.old, fun j c q e1 sp c' e' f ej hg hj hw => ?_, fun j k c q s gj gk ej ek hj hq hk hs => ?_, r.below, r.low, fun j c q e1 sp c' e' f ej hj hw => ?_⟩
  · rw [Hp.at_put] at hj
    by_cases hij : j = i
    · rw [if_pos hij] at hj; cases hj; cases hq
    · rw [if_neg hij] at hj; exact r.obj j c q ej hj hq
  · rw [Hp.at_put] at hj
    by_cases hij : j = i
    · rw [if_pos hij] at hj; cases hj
    · rw [if_neg hij] at hj; exact r.calm j c q e1 sp c' e' f ej hg hj hw
  · rw [Hp.at_put] at hj hk
    by_cases h1 : j = i
    · rw [if_pos h1] at hj; cases hj; cases hq
    · by_cases h2 : k = i
      · rw [if_pos h2] at hk; cases hk; cases hs
      · rw [if_neg h1] at hj; rw [if_neg h2] at hk; exact r.injG j k c q s gj gk ej ek hj hq hk hs
  · rw [Hp.at_put] at hj
    by_cases hij : j = i
    · rw [if_pos hij] at hj; cases hj
    · rw [if_neg hij] at hj; exact r.size j c q e1 sp c' e' f ej hj hw

/-- A block that has been given up, and that is written, under a new number. -/
theorem WR.again (r : WR G w0 σ h w) {i b : Nat} {p o : O} {o' : Obj} (e : σ i = some b) (hp : h.at_ i = some p) (hv : p.alive = true) (hg : G ≤ i) (ho : OR (σ.upd h.n b (σ.z i)) o o') (hz : ∀ (c : Array Value) (e : TypeId) (f : Nat × Nat), o' = .cells c e f → c.size = σ.z i ∧ Calm f c.size) :
    WR G w0 (σ.upd h.n b (σ.z i)) ((h.put i .dead).new o) (w.putObj b o') ∧ Ren.le σ (σ.upd h.n b (σ.z i)) := by
  have hle : Ren.le σ (σ.upd h.n b (σ.z i)) := Ren.le_upd _ _ (r.fresh _ (Nat.le_refl _))
  have hb := r.blk e hp hv
  have hin := r.lt e
  have hlow := r.low
  have hat : ∀ j, ((h.put i .dead).new o).at_ j = if j = h.n then some o else if j = i then some .dead else h.at_ j := fun j => by
    rw [Hp.at_new, Hp.at_put]; rfl
  refine ⟨⟨fun j hj => ?_, fun j c q ej hj hq => ?_, fun j c ej hj => ?_, fun j c ej hj => ?_, fun j c q e1 sp c' e' f ej hgj hj hw => ?_, fun j k c q s gj gk ej ek hj hq hk hs => ?_, below_putObj r.below (r.own i b e hg), Nat.le_succ_of_le r.low, fun j c q e1 sp c' e' f ej hj hw => ?_⟩, hle⟩
  · have hj' : h.n + 1 ≤ j := hj
    rw [Ren.upd_other _ _ _ (by omega)]; exact r.fresh j (by omega)
  · rw [hat] at hj
    by_cases h1 : j = h.n
    · subst h1
      rw [if_pos rfl] at hj; cases hj
      rw [Ren.upd_same] at ej; cases ej
      exact ⟨o', World.putObj_heap_same hb, ho⟩
    · rw [if_neg h1] at hj
      rw [Ren.upd_other _ _ _ h1] at ej
      by_cases h2 : j = i
      · rw [if_pos h2] at hj; cases hj; cases hq
      · rw [if_neg h2] at hj
        obtain ⟨q', h3, h4⟩ := r.obj j c q ej hj hq
        refine ⟨q', ?_, h4.mono hle⟩
        rw [World.putObj_heap_other (r := b) (k := c) (fun hcb => h2 (r.inj j i b q p (.inr hg) (by rw [← hcb]; exact ej) e hj hq hp hv))]
        exact h3
  · by_cases h1 : j = h.n
    · subst h1; rw [Ren.upd_same] at ej; cases ej; exact r.own i b e hg
    · rw [Ren.upd_other _ _ _ h1] at ej; exact r.own j c ej hj
  · rw [Ren.upd_other _ _ _ (by omega)] at ej; exact r.old j c ej hj
  · rw [hat] at hj
    by_cases h1 : j = h.n
    · subst h1
      rw [Ren.upd_same] at ej; cases ej
      rw [World.putObj_heap_same hb] at hw
      cases hw
      exact (hz _ _ _ rfl).2
    · rw [if_neg h1] at hj
      rw [Ren.upd_other _ _ _ h1] at ej
      by_cases h2 : j = i
      · rw [if_pos h2] at hj; cases hj
      · rw [if_neg h2] at hj
        rw [World.putObj_heap_other (r := b) (k := c) (fun hcb => h2 (r.inj j i b _ p (.inr hg) (by rw [← hcb]; exact ej) e hj rfl hp hv))] at hw
        exact r.calm j c q e1 sp c' e' f ej hgj hj hw
  · rw [hat] at hj hk
    by_cases h1 : j = h.n
    · by_cases h2 : k = h.n
      · rw [h1, h2]
      · rw [if_neg h2] at hk
        rw [Ren.upd_other _ _ _ h2] at ek
        subst h1
        rw [Ren.upd_same] at ej; cases ej
        by_cases h3 : k = i
        · rw [if_pos h3] at hk; cases hk; cases hs
        · rw [if_neg h3] at hk
          exact absurd (r.injG k i b s p gk hg ek e hk hs hp hv) h3
    · rw [if_neg h1] at hj
      rw [Ren.upd_other _ _ _ h1] at ej
      by_cases h3 : j = i
      · rw [if_pos h3] at hj; cases hj; cases hq
      · rw [if_neg h3] at hj
        by_cases h2 : k = h.n
        · subst h2
          rw [Ren.upd_same] at ek; cases ek
          exact absurd (r.injG j i b q p gj hg ej e hj hq hp hv) h3
        · rw [if_neg h2] at hk
          rw [Ren.upd_other _ _ _ h2] at ek
          by_cases h4 : k = i
          · rw [if_pos h4] at hk; cases hk; cases hs
          · rw [if_neg h4] at hk
            exact r.injG j k c q s gj gk ej ek hj hq hk hs
  · rw [hat] at hj
    by_cases h1 : j = h.n
    · subst h1
      rw [Ren.upd_same] at ej; cases ej
      rw [World.putObj_heap_same hb] at hw
      cases hw
      rw [Ren.updz_same]
      exact (hz _ _ _ rfl).1
    · rw [if_neg h1] at hj
      rw [Ren.upd_other _ _ _ h1] at ej
      rw [Ren.updz_other _ _ _ h1]
      by_cases h2 : j = i
      · rw [if_pos h2] at hj; cases hj
      · rw [if_neg h2] at hj
        rw [World.putObj_heap_other (r := b) (k := c) (fun hcb => h2 (r.inj j i b _ p (.inr hg) (by rw [← hcb]; exact ej) e hj rfl hp hv))] at hw
        exact r.size j c q e1 sp c' e' f ej hj hw

/-- The cells of a block. -/
theorem WR.cells (r : WR G w0 σ h w) {i b : Nat} {c : List V} {e : TypeId} {sp : Bool} (hi : σ i = some b) (ha : h.at_ i = some (.cells c e sp)) :
    ∃ (c' : Array Value) (f : Nat × Nat), w.heap[b]? = some (.cells c' e f) ∧ (G ≤ i → Calm f c'.size) ∧ c.length ≤ c'.size ∧ (sp = false → c.length = c'.size) ∧ ∀ (j : Nat) (v : V), c[j]? = some v → ∃ v' : Value, c'[j]? = some v' ∧ RC σ v v' := by
  obtain ⟨o', h1, h2⟩ := r.obj i b _ hi ha rfl
  cases h2 with
  | cells hl hs hc => exact ⟨_, _, h1, fun hg => r.calm i b c e sp _ _ _ hi hg ha h1, hl, hs, hc⟩

/-- Some cells of a block, one behind the other. -/
theorem WR.row (r : WR G w0 σ h w) {i b o n : Nat} {c : List V} {e : TypeId} {sp : Bool} (hi : σ i = some b) (ha : h.at_ i = some (.cells c e sp)) (hn : o + n ≤ c.length) :
    ∃ vs : List Value, F2 (RC σ) ((c.drop o).take n) vs ∧ vs.length = n ∧ ∀ j v, vs[j]? = some v → w.cell? ⟨b, o + j, none⟩ = some v := by
  obtain ⟨c', f, h1, _, hl, _, hc⟩ := r.cells hi ha
  refine ⟨(c'.toList.drop o).take n, F2.of_at ?_ ?_, ?_, ?_⟩
  · simp; omega
  · intro j x y hx hy
    have hj : j < n := by
      rcases Nat.lt_or_ge j n with h | h
      · exact h
      · rw [List.getElem?_take_eq_none h] at hx; cases hx
    rw [List.getElem?_take_of_lt hj, List.getElem?_drop] at hx hy
    obtain ⟨v', e1, e2⟩ := hc _ _ hx
    rw [← Array.getElem?_toList] at e1
    rw [e1] at hy
    cases hy
    exact e2
  · simp; omega
  · intro j v hv
    have hj : j < n := by
      rcases Nat.lt_or_ge j n with h | h
      · exact h
      · rw [List.getElem?_take_eq_none h] at hv; cases hv
    rw [List.getElem?_take_of_lt hj, List.getElem?_drop] at hv
    rw [cell_of_row w b _ c' e f h1, ← hv, Array.getElem?_toList]
end

end
end Go.Proofs.YtmlfcaaecofnjaaGreatDoor.SM
