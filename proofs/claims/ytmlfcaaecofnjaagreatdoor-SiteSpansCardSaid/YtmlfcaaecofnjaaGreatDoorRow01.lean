/- What the rows of chapter 1 share: the listed variables, the self-check. -/
import Derived.Test.YtmlfcaaecofnjaaGreatDoorBase
import Derived.Test.YtmlfcaaecofnjaaGreatDoorAwake
import Derived.Test.YtmlfcaaecofnjaaGreatDoorRows
import Derived.ProofKit
import Derived.LaidMore
import Derived.OpenShut
import Derived.Carry
import Derived.Below
import Derived.Stop.Joined
set_option linter.unusedVariables false
namespace Go.Proofs.YtmlfcaaecofnjaaGreatDoor
open Go Go.Proofs Go.ChangeShapes Go.WideShapes Go.ChangeAt Go.WideMaps Go.WideElems Go.RowKit SM
set_option maxRecDepth 100000

theorem ownOf : ownKnob Tryz.prog.godebug = none := by kernel_rfl
theorem laidOut : laidOutB Tryz.prog = true := by kernel_rfl
noncomputable def laidL : List (String × DataW Unit) := [("math/bits.deBruijn32tab", Rows.laid_math_bits_deBruijn32tab), ("math/bits.deBruijn64tab", Rows.laid_math_bits_deBruijn64tab), ("internal/strconv.uint64pow10", Rows.laid_internal_strconv_uint64pow10), ("nacelle/site.steps", Rows.laid_nacelle_site_steps)]
theorem g64 : Tryz.prog.globalNamed "math/bits.deBruijn64tab" = some 5 := by kernel_rfl
theorem gSteps : Tryz.prog.globalNamed "nacelle/site.steps" = some 0 := by kernel_rfl
theorem tSteps : (Tryz.prog.globals[0]?).map (·.type) = some 140 := by kernel_rfl

theorem door_met (os : Os) (args : Array Value) : laidMetH Tryz.prog laidL ((World.doorLaid Tryz.prog 37 os).forCall (fun _ _ => 0) ⟨#[], args, []⟩).memory :=
  laidMetH_of_parts3 (fuel := 8) (laidMet_of_run' 8 (by kernel_rfl) (by kernel_rfl)) (by kernel_rfl) (by kernel_rfl)

theorem var_row {P : Program} {w : World} {n : String} {g : Nat} {cs : Array Value} (hg : P.globalNamed n = some g) (h : w.var? P n = some cs) : ∃ e f, w.heap[g]? = some (.cells cs e f) := by
  simp only [World.var?, hg, Option.bind_some] at h
  split at h
  · rename_i c e f hc
    cases h
    exact ⟨_, _, hc⟩
  · cases h

theorem a51 : ∃ fs, Tryz.prog.underlying 51 = some (.struct fs) ∧ fs.size = 2 ∧ (fs[0]?).map (fun f => (f.type, f.offset)) = some (3, 0) ∧ (fs[1]?).map (fun f => (f.type, f.offset)) = some (3, 1) := ⟨_, Tryz.underlying51, by kernel_rfl, by kernel_rfl, by kernel_rfl⟩

theorem point_cells {W : World} {fuel : Nat} {cs : List Value} {x : DataW Unit × List MemPlace} {a b : Int} (h : DataW.trod (fun _ => ()) Tryz.prog W 0 (fun _ => true) false fuel 51 cs = some x) (hx : x.1 = .agg [.lit (.int .i64 a), .lit (.int .i64 b)]) :
    cs = [.int .i64 a, .int .i64 b] := by
  obtain ⟨fs, hu, hs, f0, f1⟩ := a51
  obtain ⟨xs, n, rfl, rfl, hl, hn, hf⟩ := DataW.trod_struct hu h
  have hc : Tryz.prog.cellsOf 51 = 2 := by kernel_rfl
  have hc3 : Tryz.prog.cellsOf 3 = 1 := by kernel_rfl
  rw [hc] at hl
  rw [hs] at hn
  cases q0 : fs[0]? with
  | none => rw [q0] at f0; cases f0
  | some F0 =>
  cases q1 : fs[1]? with
  | none => rw [q1] at f1; cases f1
  | some F1 =>
  rw [q0] at f0
  rw [q1] at f1
  simp only [Option.map_some, Option.some.injEq, Prod.mk.injEq] at f0 f1
  have h0 := hf 0 F0 q0
  have h1 := hf 1 F1 q1
  rw [f0.1, f0.2, hc3] at h0
  rw [f1.1, f1.2, hc3] at h1
  match cs, hl, xs, hn, hx, h0, h1 with
  | [c0, c1], _, [x0, x1], _, hx, h0, h1 =>
    simp only [List.map_cons, List.map_nil, DataW.agg.injEq, List.cons.injEq, and_true] at hx
    have h0' : DataW.trod (fun _ => ()) Tryz.prog W 0 (fun _ => true) false n 3 [c0] = some x0 := by simpa using h0
    have h1' : DataW.trod (fun _ => ()) Tryz.prog W 0 (fun _ => true) false n 3 [c1] = some x1 := by simpa using h1
    obtain ⟨m0, e0, d0, _⟩ := DataW.trod_int Tryz.underlying3 h0'
    obtain ⟨m1, e1, d1, _⟩ := DataW.trod_int Tryz.underlying3 h1'
    rw [d0] at hx
    rw [d1] at hx
    simp at hx
    simp at e0 e1
    rw [e0, e1, hx.1, hx.2]

theorem of_laid {W : World} (h : laidMetH Tryz.prog laidL W) : ∃ e f, W.heap[0]? = some (.cells ⟨stepValues⟩ e f) ∧ 6 ≤ W.heap.size := by
  rw [MakeChecks.laidMetH_plain _ _ _ (by kernel_rfl)] at h
  obtain ⟨ps, ⟨g0, t0, cs0, f0, p0, q0, hg0, ht0, hv0, hd0, ⟨g1, t1, cs1, f1, p1, q1, hg1, ht1, hv1, hd1, ⟨g2, t2, cs2, f2, p2, q2, hg2, ht2, hv2, hd2, ⟨g3, t3, cs3, f3, p3, q3, hg3, ht3, hv3, hd3, _, _⟩, _⟩, _⟩, _⟩, _, _⟩ := h
  obtain rfl := Option.some.inj (g64.symm.trans hg1)
  obtain rfl := Option.some.inj (gSteps.symm.trans hg3)
  obtain rfl := Option.some.inj (tSteps.symm.trans ht3)
  obtain ⟨e5, f5, h5⟩ := var_row hg1 hv1
  obtain ⟨e, f, h0⟩ := var_row hg3 hv3
  have hsz : 6 ≤ W.heap.size := (Array.getElem?_eq_some_iff.1 h5).1
  obtain ⟨xs, m, rfl, hx, hl, hn, hel⟩ := DataW.trod_array Tryz.underlying140 hd3
  have c140 : Tryz.prog.cellsOf 140 = 16 := by kernel_rfl
  have c51 : Tryz.prog.cellsOf 51 = 2 := by kernel_rfl
  rw [c140] at hl
  rw [c51] at hel
  have hx1 : Rows.laid_nacelle_site_steps = DataW.agg (xs.map (·.1)) := congrArg Prod.fst hx
  unfold Rows.laid_nacelle_site_steps at hx1
  simp only [DataW.agg.injEq] at hx1
  refine ⟨e, f, ?_, hsz⟩
  rw [h0]
  have key : cs3.toList = stepValues := by
    generalize cs3.toList = l at hl hel
    match l, hl, xs, hn, hx1, hel with
    | [v0, v1, v2, v3, v4, v5, v6, v7, v8, v9, v10, v11, v12, v13, v14, v15], _, [x0, x1, x2, x3, x4, x5, x6, x7], _, hx1, hel =>
      simp only [List.map_cons, List.map_nil, List.cons.injEq, and_true] at hx1
      obtain ⟨y0, y1, y2, y3, y4, y5, y6, y7⟩ := hx1
      have z0 := point_cells (hel 0 (by decide)) y0.symm
      have z1 := point_cells (hel 1 (by decide)) y1.symm
      have z2 := point_cells (hel 2 (by decide)) y2.symm
      have z3 := point_cells (hel 3 (by decide)) y3.symm
      have z4 := point_cells (hel 4 (by decide)) y4.symm
      have z5 := point_cells (hel 5 (by decide)) y5.symm
      have z6 := point_cells (hel 6 (by decide)) y6.symm
      have z7 := point_cells (hel 7 (by decide)) y7.symm
      simp at z0 z1 z2 z3 z4 z5 z6 z7
      simp [stepValues, z0, z1, z2, z3, z4, z5, z6, z7]
  have : cs3 = ⟨stepValues⟩ := by
    cases cs3
    simp at key
    rw [key]
  rw [this]

/-- The self-check, wherever it is called. -/
theorem awake_cv {r : Nat} (hr : 6 ≤ r) {w0 : World} (h0 : ∃ e f, w0.heap[0]? = some (.cells ⟨stepValues⟩ e f) ∧ 6 ≤ w0.heap.size) : CvOK (En r) w0 11 [] [] (boo true) := by
  intro h _
  refine FnOK.of_calls noGo Tryz.func11 (by kernel_rfl) fun σ w args' rr g ha => ?_
  obtain ⟨e, f, hs, hz⟩ := h0
  cases ha
  have hb := rr.below
  have hs' : w.heap[0]? = some (.cells ⟨stepValues⟩ e f) := (hb.block 0 (by omega)).trans hs
  refine (awake_calls w e f (Nat.le_trans hz hb.size) hs').mono ?_
  rintro en w' ⟨rfl, hbl⟩
  exact ⟨_, σ, rfl, Ren.le_refl _, rr.onto hbl, .val (.cell (.leaf (.sc rfl)))⟩
end Go.Proofs.YtmlfcaaecofnjaaGreatDoor
