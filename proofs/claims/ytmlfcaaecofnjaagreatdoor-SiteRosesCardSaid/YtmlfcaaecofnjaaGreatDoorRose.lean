/- Roses: check, turn, sum; the program's and the reference's. -/
import Derived.Test.YtmlfcaaecofnjaaGreatDoorFirst
import Derived.ChangeKeysEq
set_option linter.unusedVariables false
namespace Go.Proofs.YtmlfcaaecofnjaaGreatDoor
open Go Go.Proofs Go.RowKit SM
set_option maxRecDepth 100000

noncomputable def roseC (r : Nat → Int) : List V := (List.range 408).map fun j => int (r j)
noncomputable def rowC (r : Nat → Int) (s : Nat) : List V := (List.range 51).map fun j => int (r (51 * s + j))
def roseV (r : Nat → Int) : List Value := (List.range 408).map fun j => Value.int .i64 (r j)

def rowE (r : Nat → Int) (s : Nat) : Nat → Int
  | 0 => 0
  | d + 1 => if rangeE (r (51 * s + (50 - d))) 0 40000 = 0 then rowE r s d else rangeE (r (51 * s + (50 - d))) 0 40000
def allE (r : Nat → Int) : Nat → Int
  | 0 => 0
  | d + 1 => if rowE r (7 - d) 51 = 0 then allE r d else rowE r (7 - d) 51
def roseE (r : Nat → Int) : Int := allE r 8

theorem rangeE_cases (n a b : Int) : rangeE n a b = 0 ∨ rangeE n a b = 3 := by
  unfold rangeE; split
  · exact .inr rfl
  · exact .inl rfl
theorem rowE_cases (r : Nat → Int) (s : Nat) : ∀ d, rowE r s d = 0 ∨ rowE r s d = 3 := by
  intro d
  induction d with
  | zero => exact .inl rfl
  | succ d ih =>
    simp only [rowE]
    split
    · exact ih
    · exact rangeE_cases _ _ _
theorem allE_cases (r : Nat → Int) : ∀ d, allE r d = 0 ∨ allE r d = 3 := by
  intro d
  induction d with
  | zero => exact .inl rfl
  | succ d ih =>
    simp only [allE]
    split
    · exact ih
    · exact rowE_cases _ _ _
theorem roseE_zero (r : Nat → Int) (h : ∀ j, j < 408 → r j = 0) : roseE r = 0 := by
  have h1 : ∀ s, s < 8 → ∀ d, d ≤ 51 → rowE r s d = 0 := by
    intro s hs d
    induction d with
    | zero => intro _; rfl
    | succ d ih =>
      intro hd
      have : rangeE (r (51 * s + (50 - d))) 0 40000 = 0 := by rw [h _ (by omega)]; rfl
      simp only [rowE, this, if_true]
      exact ih (by omega)
  have h2 : ∀ d, d ≤ 8 → allE r d = 0 := by
    intro d
    induction d with
    | zero => intro _; rfl
    | succ d ih =>
      intro hd
      simp only [allE, h1 (7 - d) (by omega) 51 (Nat.le_refl _), if_true]
      exact ih (by omega)
  exact h2 8 (Nat.le_refl _)

theorem vpart_cell (k : Nat) (cs : List V) (o : Nat) : vpart (En k) 3 cs o = cs[o]? := by
  show (match (En k).P.underlying 3 with
    | none => none
    | some d => bif isAggD d then (match (En k).P.info? 3 with | some i => bif Nat.ble (o + i.size) cs.length then some (V.agg ((cs.drop o).take i.size)) else none | none => none)
    else cs[o]?) = _
  have : (En k).P.underlying 3 = some (.int .i64) := by kernel_rfl
  rw [this]
  rfl
theorem und72 : Tryz.prog.underlying 72 = some (.array 51 3) := by kernel_rfl
theorem und3 : Tryz.prog.underlying 3 = some (.int .i64) := by kernel_rfl
theorem inf72 : ∃ i, Tryz.prog.info? 72 = some i ∧ i.size = 51 := ⟨_, rfl, by kernel_rfl⟩
theorem inf3 : ∃ i, Tryz.prog.info? 3 = some i ∧ i.size = 1 := ⟨_, rfl, by kernel_rfl⟩

theorem rose_len (r : Nat → Int) : (roseC r).length = 408 := by unfold roseC; simp
theorem rose_row (r : Nat → Int) {s : Nat} (hs : s < 8) : ((roseC r).drop (s * 51)).take 51 = rowC r s := by
  apply List.ext_getElem?
  intro j
  unfold roseC rowC
  by_cases hj : j < 51
  · rw [List.getElem?_take_of_lt hj, List.getElem?_drop, List.getElem?_map, List.getElem?_map, List.getElem?_range (by omega), List.getElem?_range hj]
    simp only [Option.map_some]
    rw [show s * 51 + j = 51 * s + j by omega]
  · rw [List.getElem?_take_eq_none (by omega), List.getElem?_eq_none (by simp; omega)]
theorem vpart_row (k : Nat) (r : Nat → Int) {s : Nat} (hs : s < 8) : vpart (En k) 72 (roseC r) (s * 51) = some (.agg (rowC r s)) := by
  obtain ⟨i, h1, h2⟩ := inf72
  have h1' : (En k).P.info? 72 = some i := h1
  have h3 : (En k).P.underlying 72 = some (.array 51 3) := und72
  unfold vpart
  rw [h3]
  simp only [isAggD, cond_true, h1', h2]
  rw [Nat.ble_eq_true_of_le (by rw [rose_len]; omega), rose_row r hs]
  rfl
theorem row_get (r : Nat → Int) (s : Nat) {v : Nat} (hv : v < 51) : (rowC r s)[v * 1]? = some (int (r (51 * s + v))) := by
  unfold rowC
  rw [Nat.mul_one, List.getElem?_map, List.getElem?_range hv]
  rfl
theorem rose_get (r : Nat → Int) {s v : Nat} (hs : s < 8) (hv : v < 51) : (roseC r)[0 + s * 51 + v * 1]? = some (int (r (51 * s + v))) := by
  unfold roseC
  rw [List.getElem?_map, List.getElem?_range (by omega)]
  simp only [Option.map_some]
  rw [show 0 + s * 51 + v * 1 = 51 * s + v by omega]
theorem rose_flat (r : Nat → Int) : ∀ v ∈ roseC r, ∃ x, v = .sc x := fun v hv => by
  obtain ⟨x, _, rfl⟩ := List.mem_map.1 hv
  exact ⟨_, rfl⟩

/-! ### Two roses compared -/
theorem eqItems_step {P : Program} {w : World} {d : Nat} {e : TypeId} {c : Nat} {xs ys : Array Value} {s : Nat} {is : List Nat} {a b : Value} {r : Bool} (h1 : (part e xs (s * c)).run P w = .ok a w) (h2 : (part e ys (s * c)).run P w = .ok b w)
    (h3 : (Op.equalIn d e a b).run P w = .ok r w) : (Op.eqItems d e c xs ys (s :: is)).run P w = if r then (Op.eqItems d e c xs ys is).run P w else .ok false w := by
  simp only [Op.eqItems, Sem.run_bind, h1, h2, h3, Result.andThen_ok]
  cases r <;> simp

theorem eq_cells (d : Nat) (w : World) (a b : Nat → Int) (s : Nat) (hs : s < 8) : ∀ (is : List Nat), (∀ i ∈ is, i < 51) → ∀ (xs ys : Array Value), (∀ i, i < 51 → xs[i]? = some (.int .i64 (a (51 * s + i))) ∧ ys[i]? = some (.int .i64 (b (51 * s + i)))) →
    (Op.eqItems (d + 1) 3 1 xs ys is).run Tryz.prog w = .ok (is.all fun i => a (51 * s + i) == b (51 * s + i)) w := by
  intro is
  induction is with
  | nil => intro _ xs ys _; rfl
  | cons i is ih =>
    intro hi xs ys h
    obtain ⟨h1, h2⟩ := h i (hi i (List.mem_cons_self ..))
    have p : ∀ (zs : Array Value) (v : Value), zs[i]? = some v → (part 3 zs (i * 1)).run Tryz.prog w = .ok v w := fun zs v hz => by
      rw [Nat.mul_one]
      simp only [part, Sem.run_bind, run_isAggD und3, Result.andThen_ok, isAggD, Bool.false_eq_true, if_false, hz]
      rfl
    simp only [Op.eqItems, Sem.run_bind, p _ _ h1, p _ _ h2, Result.andThen_ok, run_equalIn_int w d 3 .i64 .i64 _ _ und3]
    rw [List.all_cons]
    cases hab : (a (51 * s + i) == b (51 * s + i)) with
    | false => simp
    | true =>
      simp only [Bool.not_true, Bool.false_eq_true, if_false, Bool.true_and]
      exact ih (fun j hj => hi j (List.mem_cons_of_mem _ hj)) xs ys h

def roseEq (a b : Nat → Int) : Bool := (List.range 8).all fun s => (List.range 51).all fun i => a (51 * s + i) == b (51 * s + i)

theorem eq_rows (d : Nat) (w : World) (a b : Nat → Int) (xs ys : Array Value) (hx : ∀ j, j < 408 → xs[j]? = some (.int .i64 (a j))) (hy : ∀ j, j < 408 → ys[j]? = some (.int .i64 (b j))) : ∀ (is : List Nat), (∀ i ∈ is, i < 8) →
    (Op.eqItems (d + 2) 72 51 xs ys is).run Tryz.prog w = .ok (is.all fun s => (List.range 51).all fun i => a (51 * s + i) == b (51 * s + i)) w := by
  intro is
  induction is with
  | nil => intro _; rfl
  | cons s is ih =>
    intro hi
    have hs := hi s (List.mem_cons_self ..)
    obtain ⟨inf, q1, q2⟩ := inf72
    have p : ∀ (zs : Array Value), (part 72 zs (s * 51)).run Tryz.prog w = .ok (.agg (zs.extract (s * 51) (s * 51 + 51))) w := fun zs => by
      simp only [part, Sem.run_bind, run_isAggD und72, Result.andThen_ok, isAggD, if_true, run_siz q1, q2, Sem.run_pure]
    have g : ∀ (c : Nat → Int) (zs : Array Value), (∀ j, j < 408 → zs[j]? = some (.int .i64 (c j))) → ∀ (i : Nat), i < 51 → (zs.extract (s * 51) (s * 51 + 51))[i]? = some (.int .i64 (c (51 * s + i))) := fun c zs hz i h => by
      have h1 := hz (51 * s + i) (by omega)
      have h2 := (Array.getElem?_eq_some_iff.1 h1).1
      rw [Array.getElem?_extract]
      rw [if_pos (by omega), show s * 51 + i = 51 * s + i by omega]
      exact h1
    obtain ⟨inf3', q3, q4⟩ := inf3
    have hc : Tryz.prog.cellsOf 3 = 1 := by kernel_rfl
    have h3 : (Op.equalIn (d + 2) 72 (.agg (xs.extract (s * 51) (s * 51 + 51))) (.agg (ys.extract (s * 51) (s * 51 + 51)))).run Tryz.prog w = .ok ((List.range 51).all fun i => a (51 * s + i) == b (51 * s + i)) w := by
      rw [run_equalIn_array w (d + 1) _ _ und72 q3, hc]
      exact eq_cells d w a b s hs (List.range 51) (fun i h => List.mem_range.1 h) _ _ (fun i h => ⟨g a xs hx i h, g b ys hy i h⟩)
    rw [eqItems_step (p xs) (p ys) h3, List.all_cons]
    cases hab : ((List.range 51).all fun i => a (51 * s + i) == b (51 * s + i)) with
    | false => rfl
    | true => exact ih (fun j hj => hi j (List.mem_cons_of_mem _ hj))

theorem roseV_get (a : Nat → Int) (j : Nat) (hj : j < 408) : (⟨roseV a⟩ : Array Value)[j]? = some (.int .i64 (a j)) := by
  have : (⟨roseV a⟩ : Array Value)[j]? = (roseV a)[j]? := by simp
  rw [this]
  unfold roseV
  rw [List.getElem?_map, List.getElem?_range hj]
  rfl

theorem rose_eql {k : Nat} (T : TypeId) (hT : Tryz.prog.underlying T = some (.array 8 72)) (hg : Tryz.prog.eqGuardType Tryz.prog.depth T = false) (x y : Operand) (a b : Nat → Int) {c : Bool} (hc : roseEq a b = c) :
    BinIs (En k) .eql T x y (.agg ⟨roseV a⟩) (.agg ⟨roseV b⟩) c := by
  intro w
  obtain ⟨inf, q1, q2⟩ := inf72
  have hcell : Tryz.prog.cellsOf 72 = 51 := by kernel_rfl
  show (do eqGuard .eql T x y (.agg ⟨roseV a⟩) (.agg ⟨roseV b⟩); binOp .eql T (.agg ⟨roseV a⟩) (.agg ⟨roseV b⟩) : Sem Value).run Tryz.prog w = _
  rw [Sem.run_bind, run_eqGuard_agg w .eql T x y _ _ hg]
  simp only [Result.andThen_ok]
  obtain ⟨d, hd⟩ : ∃ d, (10000 : Nat) = d + 3 := ⟨9997, by omega⟩
  rw [run_eql_struct, hd, run_equalIn_array w (d + 2) _ _ hT q1, hcell, eq_rows d w a b _ _ (roseV_get a) (roseV_get b) (List.range 8) (fun i h => List.mem_range.1 h)]
  simp only [Result.andThen_ok]
  rw [← hc]
  rfl
theorem roseEq_iff (a b : Nat → Int) : roseEq a b = true ↔ ∀ j, j < 408 → a j = b j := by
  unfold roseEq
  simp only [List.all_eq_true, List.mem_range, beq_iff_eq]
  refine ⟨fun h j hj => ?_, fun h s hs i hi => h _ (by omega)⟩
  have := h (j / 51) (by omega) (j % 51) (by omega)
  rw [show 51 * (j / 51) + j % 51 = j by omega] at this
  exact this
end Go.Proofs.YtmlfcaaecofnjaaGreatDoor
