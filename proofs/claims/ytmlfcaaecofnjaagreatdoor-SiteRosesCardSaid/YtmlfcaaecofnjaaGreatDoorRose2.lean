/- Roses: the functions. -/
import Derived.Test.YtmlfcaaecofnjaaGreatDoorRose
set_option linter.unusedVariables false
namespace Go.Proofs.YtmlfcaaecofnjaaGreatDoor
open Go Go.Proofs Go.RowKit SM
set_option maxRecDepth 100000

abbrev k6 (keep : List Nat) : Wk := ⟨6, [], keep, [], 6⟩
noncomputable abbrev e6 : Hp := ⟨6, mkH []⟩
theorem hwrap {v : Nat} (h : v < 1000000) : int (IntKind.i64.wrap ((v : Int) + 1)) = int ((v + 1 : Nat) : Int) := int_eq (by rw [wrap_id (by omega) (by omega)]; omega)

/-! ### site.CheckRose -/
noncomputable abbrev stI (r : Nat → Int) (s v : Nat) : St := ⟨frm 26 [(2, int 0), (11, .agg (roseC r)), (12, int s), (15, .agg (rowC r s)), (16, int v)], 26, e6, []⟩
noncomputable abbrev stO (r : Nat → Int) (s : Nat) : St := ⟨frm 26 [(2, int 0), (11, .agg (roseC r)), (12, int s)], 26, e6, []⟩
noncomputable abbrev stE (x : Int) : St := ⟨frm 26 [(2, int x)], 26, e6, []⟩

theorem cr_good (w : World) (r : Nat → Int) (s v : Nat) (hv : v < 51) (h : rangeE (r (51 * s + v)) 0 40000 = 0) : Tri (En 6) w 6 true (rnd Tryz.f56 2) (stI r s v) .norm (stI r s (v + 1)) :=
  Tri.of_pass (S := [(17, .eq (boo true)), (18, .ixv v (int (r (51 * s + v)))), (20, .cv (int 0)), (24, .eq (int (v + 1 : Nat)))]) (k6 [2, 11, 12, 15, 16]) mixedP nocall_ok
    [boo (decide ((v : Int) < 51)) = boo true, (v : Int) = (v : Int), v < 51, vpart (En 6) 3 (rowC r s) (v * 1) = some (int (r (51 * s + v))), CvOK (En 6) w 95 [int (r (51 * s + v)), int 0, int 40000] [] (int 0), int (IntKind.i64.wrap ((v : Int) + 1)) = int (v + 1 : Nat)] (by kernel_rfl)
    ⟨dec_t (by omega), rfl, hv, (vpart_cell 6 _ _).trans (row_get r s hv), within_cv (Nat.le_refl _) h, hwrap (by omega)⟩
theorem cr_bad (w : World) (r : Nat → Int) (s v : Nat) (hv : v < 51) (h : rangeE (r (51 * s + v)) 0 40000 = 3) : Tri (En 6) w 6 true (rnd Tryz.f56 2) (stI r s v) .ret (stE 3) :=
  Tri.of_pass (S := [(17, .eq (boo true)), (18, .ixv v (int (r (51 * s + v)))), (20, .cv (int 3))]) (k6 [2]) mixedP nocall_ok
    [boo (decide ((v : Int) < 51)) = boo true, (v : Int) = (v : Int), v < 51, vpart (En 6) 3 (rowC r s) (v * 1) = some (int (r (51 * s + v))), CvOK (En 6) w 95 [int (r (51 * s + v)), int 0, int 40000] [] (int 3)] (by kernel_rfl)
    ⟨dec_t (by omega), rfl, hv, (vpart_cell 6 _ _).trans (row_get r s hv), within_cv (Nat.le_refl _) h⟩
theorem cr_end (w : World) (r : Nat → Int) (s v : Nat) (hv : v = 51) : Tri (En 6) w 6 true (rnd Tryz.f56 2) (stI r s v) (.exit 2) (stO r s) :=
  Tri.of_pass (S := [(17, .eq (boo false))]) (k6 [2, 11, 12]) mixedP nocall_ok [boo (decide ((v : Int) < 51)) = boo false] (by kernel_rfl) (dec_f (by omega))

theorem cr_row (w : World) (r : Nat → Int) (s : Nat) : ∀ d, d ≤ 51 → (rowE r s d = 0 → LTri (En 6) w 6 true (rnd Tryz.f56 2) (stI r s (51 - d)) (.exit 2) (stO r s)) ∧ (rowE r s d = 3 → LTri (En 6) w 6 true (rnd Tryz.f56 2) (stI r s (51 - d)) .ret (stE 3)) := by
  intro d
  induction d with
  | zero => intro _; exact ⟨fun _ => LTri.leave (fun h => by cases h) (cr_end w r s 51 rfl), fun h => by cases h⟩
  | succ d ih =>
    intro hd
    obtain ⟨i1, i2⟩ := ih (by omega)
    have e1 : 51 - (d + 1) = 50 - d := by omega
    have e2 : 50 - d + 1 = 51 - d := by omega
    rw [e1]
    simp only [rowE]
    rcases rangeE_cases (r (51 * s + (50 - d))) 0 40000 with h | h
    · have pass := cr_good w r s (50 - d) (by omega) h
      rw [e2] at pass
      simp only [h, if_true]
      exact ⟨fun h => LTri.pass pass (i1 h), fun h => LTri.pass pass (i2 h)⟩
    · simp only [h, if_neg (show ¬ ((3 : Int) = 0) by omega)]
      exact ⟨fun h => (by cases h), fun _ => LTri.leave (fun h => by cases h) (cr_bad w r s (50 - d) (by omega) h)⟩

theorem blk56i : blk Tryz.f56 2 = .block 2 (.loop (rnd Tryz.f56 2)) := by kernel_rfl
theorem blk56o : blk Tryz.f56 0 = .block 0 (.loop (rnd Tryz.f56 0)) := by kernel_rfl
theorem cro_good (w : World) (r : Nat → Int) (s : Nat) (hs : s < 8) (h : rowE r s 51 = 0) : Tri (En 6) w 6 true (rnd Tryz.f56 0) (stO r s) .norm (stO r (s + 1)) :=
  Tri.of_pass (S := [(13, .eq (boo true)), (14, .ixv s (.agg (rowC r s))), (400002, .code (k6 [2, 11, 12, 15, 16]) .norm (stO r s)), (25, .eq (int (s + 1 : Nat)))]) (k6 [2, 11, 12]) mixedP nocall_ok
    [boo (decide ((s : Int) < 8)) = boo true, (s : Int) = (s : Int), s < 8, vpart (En 6) 72 (roseC r) (s * 51) = some (.agg (rowC r s)), Tri (En 6) w 6 true (blk Tryz.f56 2) (stI r s 0) .norm (stO r s), int (IntKind.i64.wrap ((s : Int) + 1)) = int (s + 1 : Nat)] (by kernel_rfl)
    ⟨dec_t (by omega), rfl, hs, vpart_row 6 r hs, Tri.rnd blk56i ((cr_row w r s 51 (Nat.le_refl _)).1 h), hwrap (by omega)⟩
theorem cro_bad (w : World) (r : Nat → Int) (s : Nat) (hs : s < 8) (h : rowE r s 51 = 3) : Tri (En 6) w 6 true (rnd Tryz.f56 0) (stO r s) .ret (stE 3) :=
  Tri.of_pass (S := [(13, .eq (boo true)), (14, .ixv s (.agg (rowC r s))), (400002, .code (k6 [2, 11, 12, 15, 16]) .ret (stE 3))]) (k6 [2]) mixedP nocall_ok
    [boo (decide ((s : Int) < 8)) = boo true, (s : Int) = (s : Int), s < 8, vpart (En 6) 72 (roseC r) (s * 51) = some (.agg (rowC r s)), Tri (En 6) w 6 true (blk Tryz.f56 2) (stI r s 0) .ret (stE 3)] (by kernel_rfl)
    ⟨dec_t (by omega), rfl, hs, vpart_row 6 r hs, Tri.rnd blk56i ((cr_row w r s 51 (Nat.le_refl _)).2 h)⟩
theorem cro_end (w : World) (r : Nat → Int) (s : Nat) (hs : s = 8) : Tri (En 6) w 6 true (rnd Tryz.f56 0) (stO r s) (.exit 0) (stE 0) :=
  Tri.of_pass (S := [(13, .eq (boo false))]) (k6 [2]) mixedP nocall_ok [boo (decide ((s : Int) < 8)) = boo false] (by kernel_rfl) (dec_f (by omega))

theorem cr_all (w : World) (r : Nat → Int) : ∀ d, d ≤ 8 → (allE r d = 0 → LTri (En 6) w 6 true (rnd Tryz.f56 0) (stO r (8 - d)) (.exit 0) (stE 0)) ∧ (allE r d = 3 → LTri (En 6) w 6 true (rnd Tryz.f56 0) (stO r (8 - d)) .ret (stE 3)) := by
  intro d
  induction d with
  | zero => intro _; exact ⟨fun _ => LTri.leave (fun h => by cases h) (cro_end w r 8 rfl), fun h => by cases h⟩
  | succ d ih =>
    intro hd
    obtain ⟨i1, i2⟩ := ih (by omega)
    have e1 : 8 - (d + 1) = 7 - d := by omega
    have e2 : 7 - d + 1 = 8 - d := by omega
    rw [e1]
    simp only [allE]
    rcases rowE_cases r (7 - d) 51 with h | h
    · have pass := cro_good w r (7 - d) (by omega) h
      rw [e2] at pass
      simp only [h, if_true]
      exact ⟨fun h => LTri.pass pass (i1 h), fun h => LTri.pass pass (i2 h)⟩
    · simp only [h, if_neg (show ¬ ((3 : Int) = 0) by omega)]
      exact ⟨fun h => (by cases h), fun _ => LTri.leave (fun h => by cases h) (cro_bad w r (7 - d) (by omega) h)⟩

theorem und82 : Tryz.prog.underlying 82 = some (.array 8 72) := by kernel_rfl
theorem und74 : Tryz.prog.underlying 74 = some (.array 8 72) := by kernel_rfl
theorem grd82 : Tryz.prog.eqGuardType Tryz.prog.depth 82 = false := by kernel_rfl
theorem grd74 : Tryz.prog.eqGuardType Tryz.prog.depth 74 = false := by kernel_rfl

theorem CheckRose_ok {r0 : Nat} (hr : 6 ≤ r0) {w0 : World} {h : Hp} (r : Nat → Int) : FnOK (En r0) w0 56 [.agg (roseC r)] h (int (roseE r)) h := by
  refine pure0 (by kernel_rfl) noId_sc (fun w => ?_) hr
  cases hz : roseEq r (fun _ => 0) with
  | true =>
    rw [roseE_zero r ((roseEq_iff _ _).1 hz)]
    exact FnOK.of_sfunv mixedP noGo Tryz.func56 [(10, .bin true)] [BinIs (En 6) .eql 82 (.tmp 8) (.tmp 9) (.agg ⟨roseV r⟩) (.agg ⟨roseV fun _ => 0⟩) true] (by kernel_rfl) (rose_eql 82 und82 grd82 _ _ _ _ hz)
  | false =>
    rcases allE_cases r 8 with h | h
    · rw [show roseE r = 0 from h]
      exact FnOK.of_sfunv mixedP noGo Tryz.func56 [(10, .bin false), (400000, .code (k6 [2, 11, 12]) .norm (stE 0))]
        [BinIs (En 6) .eql 82 (.tmp 8) (.tmp 9) (.agg ⟨roseV r⟩) (.agg ⟨roseV fun _ => 0⟩) false, Tri (En 6) w 6 true (blk Tryz.f56 0) (stO r 0) .norm (stE 0)] (by kernel_rfl)
        ⟨rose_eql 82 und82 grd82 _ _ _ _ hz, Tri.rnd blk56o ((cr_all w r 8 (Nat.le_refl _)).1 h)⟩
    · rw [show roseE r = 3 from h]
      exact FnOK.of_sfunv mixedP noGo Tryz.func56 [(10, .bin false), (400000, .code (k6 [2, 11, 12]) .ret (stE 3))]
        [BinIs (En 6) .eql 82 (.tmp 8) (.tmp 9) (.agg ⟨roseV r⟩) (.agg ⟨roseV fun _ => 0⟩) false, Tri (En 6) w 6 true (blk Tryz.f56 0) (stO r 0) .ret (stE 3)] (by kernel_rfl)
        ⟨rose_eql 82 und82 grd82 _ _ _ _ hz, Tri.rnd blk56o ((cr_all w r 8 (Nat.le_refl _)).2 h)⟩

/-! ### nacelleref01.CheckRose -/
noncomputable abbrev hR (r : Nat → Int) : Hp := ⟨7, mkH [(6, .cells (roseC r) 74 false)]⟩
abbrev kR (keep : List Nat) : Wk := ⟨6, [(6, 6, true)], keep, [], 7⟩
noncomputable abbrev rfI (r : Nat → Int) (s v : Nat) : St := ⟨frm 20 [(1, .ptr 6 0), (2, int 0), (3, int s), (4, int v)], 20, hR r, []⟩
noncomputable abbrev rfO (r : Nat → Int) (s : Nat) : St := ⟨frm 20 [(1, .ptr 6 0), (2, int 0), (3, int s)], 20, hR r, []⟩
noncomputable abbrev rfE (r : Nat → Int) (x : Int) : St := ⟨frm 20 [(2, int x)], 20, hR r, []⟩
theorem sameR (r : Nat → Int) : SameO (kR []).ρ (.cells (roseC r) 74 false) := same_flat (rose_flat r)

theorem fr_good (w : World) (r : Nat → Int) (s v : Nat) (hs : s < 8) (hv : v < 51) (h : rangeE (r (51 * s + v)) 0 40000 = 0) : Tri (En 6) w 6 true (rnd Tryz.f50 2) (rfI r s v) .norm (rfI r s (v + 1)) :=
  Tri.of_pass (S := [(10, .eq (boo true)), (15, .ix s), (16, .ix v), (17, .ld (int (r (51 * s + v)))), (18, .cv (int 0)), (12, .eq (int (v + 1 : Nat)))]) (kR [1, 2, 3, 4]) mixedP nocall_ok
    [boo (decide ((v : Int) ≤ 50)) = boo true, (s : Int) = (s : Int), s < 8, (v : Int) = (v : Int), v < 51, (roseC r)[0 + s * 51 + v * 1]? = some (int (r (51 * s + v))), CvOK (En 6) w 42 [int (r (51 * s + v)), int 0, int 40000] [] (int 0), int (IntKind.i64.wrap ((v : Int) + 1)) = int (v + 1 : Nat), SameO (kR []).ρ (.cells (roseC r) 74 false)] (by kernel_rfl)
    ⟨dec_t (by omega), rfl, hs, rfl, hv, rose_get r hs hv, CheckRange_cv (Nat.le_refl _) h, hwrap (by omega), sameR r⟩
theorem fr_bad (w : World) (r : Nat → Int) (s v : Nat) (hs : s < 8) (hv : v < 51) (h : rangeE (r (51 * s + v)) 0 40000 = 3) : Tri (En 6) w 6 true (rnd Tryz.f50 2) (rfI r s v) .ret (rfE r 3) :=
  Tri.of_pass (S := [(10, .eq (boo true)), (15, .ix s), (16, .ix v), (17, .ld (int (r (51 * s + v)))), (18, .cv (int 3))]) (kR [2]) mixedP nocall_ok
    [boo (decide ((v : Int) ≤ 50)) = boo true, (s : Int) = (s : Int), s < 8, (v : Int) = (v : Int), v < 51, (roseC r)[0 + s * 51 + v * 1]? = some (int (r (51 * s + v))), CvOK (En 6) w 42 [int (r (51 * s + v)), int 0, int 40000] [] (int 3), SameO (kR []).ρ (.cells (roseC r) 74 false)] (by kernel_rfl)
    ⟨dec_t (by omega), rfl, hs, rfl, hv, rose_get r hs hv, CheckRange_cv (Nat.le_refl _) h, sameR r⟩
theorem fr_end (w : World) (r : Nat → Int) (s v : Nat) (hv : v = 51) : Tri (En 6) w 6 true (rnd Tryz.f50 2) (rfI r s v) (.exit 2) (rfO r s) :=
  Tri.of_pass (S := [(10, .eq (boo false))]) (kR [1, 2, 3]) mixedP nocall_ok [boo (decide ((v : Int) ≤ 50)) = boo false, SameO (kR []).ρ (.cells (roseC r) 74 false)] (by kernel_rfl) ⟨dec_f (by omega), sameR r⟩
theorem fr_row (w : World) (r : Nat → Int) (s : Nat) (hs : s < 8) : ∀ d, d ≤ 51 → (rowE r s d = 0 → LTri (En 6) w 6 true (rnd Tryz.f50 2) (rfI r s (51 - d)) (.exit 2) (rfO r s)) ∧ (rowE r s d = 3 → LTri (En 6) w 6 true (rnd Tryz.f50 2) (rfI r s (51 - d)) .ret (rfE r 3)) := by
  intro d
  induction d with
  | zero => intro _; exact ⟨fun _ => LTri.leave (fun h => by cases h) (fr_end w r s 51 rfl), fun h => by cases h⟩
  | succ d ih =>
    intro hd
    obtain ⟨i1, i2⟩ := ih (by omega)
    have e1 : 51 - (d + 1) = 50 - d := by omega
    have e2 : 50 - d + 1 = 51 - d := by omega
    rw [e1]
    simp only [rowE]
    rcases rangeE_cases (r (51 * s + (50 - d))) 0 40000 with h | h
    · have pass := fr_good w r s (50 - d) hs (by omega) h
      rw [e2] at pass
      simp only [h, if_true]
      exact ⟨fun h => LTri.pass pass (i1 h), fun h => LTri.pass pass (i2 h)⟩
    · simp only [h, if_neg (show ¬ ((3 : Int) = 0) by omega)]
      exact ⟨fun h => (by cases h), fun _ => LTri.leave (fun h => by cases h) (fr_bad w r s (50 - d) hs (by omega) h)⟩
theorem blk50i : blk Tryz.f50 2 = .block 2 (.loop (rnd Tryz.f50 2)) := by kernel_rfl
theorem blk50o : blk Tryz.f50 0 = .block 0 (.loop (rnd Tryz.f50 0)) := by kernel_rfl
theorem fro_good (w : World) (r : Nat → Int) (s : Nat) (hs : s < 8) (h : rowE r s 51 = 0) : Tri (En 6) w 6 true (rnd Tryz.f50 0) (rfO r s) .norm (rfO r (s + 1)) :=
  Tri.of_pass (S := [(6, .eq (boo true)), (400002, .code (kR [1, 2, 3, 4]) .norm (rfO r s)), (8, .eq (int (s + 1 : Nat)))]) (kR [1, 2, 3]) mixedP nocall_ok
    [boo (decide ((s : Int) < 8)) = boo true, SameO (kR []).ρ (.cells (roseC r) 74 false), Tri (En 6) w 6 true (blk Tryz.f50 2) (rfI r s 0) .norm (rfO r s), int (IntKind.i64.wrap ((s : Int) + 1)) = int (s + 1 : Nat), SameO (kR []).ρ (.cells (roseC r) 74 false)] (by kernel_rfl)
    ⟨dec_t (by omega), sameR r, Tri.rnd blk50i ((fr_row w r s hs 51 (Nat.le_refl _)).1 h), hwrap (by omega), sameR r⟩
theorem fro_bad (w : World) (r : Nat → Int) (s : Nat) (hs : s < 8) (h : rowE r s 51 = 3) : Tri (En 6) w 6 true (rnd Tryz.f50 0) (rfO r s) .ret (rfE r 3) :=
  Tri.of_pass (S := [(6, .eq (boo true)), (400002, .code (kR [1, 2, 3, 4]) .ret (rfE r 3))]) (kR [2]) mixedP nocall_ok
    [boo (decide ((s : Int) < 8)) = boo true, SameO (kR []).ρ (.cells (roseC r) 74 false), Tri (En 6) w 6 true (blk Tryz.f50 2) (rfI r s 0) .ret (rfE r 3), SameO (kR []).ρ (.cells (roseC r) 74 false)] (by kernel_rfl)
    ⟨dec_t (by omega), sameR r, Tri.rnd blk50i ((fr_row w r s hs 51 (Nat.le_refl _)).2 h), sameR r⟩
theorem fro_end (w : World) (r : Nat → Int) (s : Nat) (hs : s = 8) : Tri (En 6) w 6 true (rnd Tryz.f50 0) (rfO r s) (.exit 0) (rfE r 0) :=
  Tri.of_pass (S := [(6, .eq (boo false))]) (kR [2]) mixedP nocall_ok [boo (decide ((s : Int) < 8)) = boo false, SameO (kR []).ρ (.cells (roseC r) 74 false)] (by kernel_rfl) ⟨dec_f (by omega), sameR r⟩
theorem fr_all (w : World) (r : Nat → Int) : ∀ d, d ≤ 8 → (allE r d = 0 → LTri (En 6) w 6 true (rnd Tryz.f50 0) (rfO r (8 - d)) (.exit 0) (rfE r 0)) ∧ (allE r d = 3 → LTri (En 6) w 6 true (rnd Tryz.f50 0) (rfO r (8 - d)) .ret (rfE r 3)) := by
  intro d
  induction d with
  | zero => intro _; exact ⟨fun _ => LTri.leave (fun h => by cases h) (fro_end w r 8 rfl), fun h => by cases h⟩
  | succ d ih =>
    intro hd
    obtain ⟨i1, i2⟩ := ih (by omega)
    have e1 : 8 - (d + 1) = 7 - d := by omega
    have e2 : 7 - d + 1 = 8 - d := by omega
    rw [e1]
    simp only [allE]
    rcases rowE_cases r (7 - d) 51 with h | h
    · have pass := fro_good w r (7 - d) (by omega) h
      rw [e2] at pass
      simp only [h, if_true]
      exact ⟨fun h => LTri.pass pass (i1 h), fun h => LTri.pass pass (i2 h)⟩
    · simp only [h, if_neg (show ¬ ((3 : Int) = 0) by omega)]
      exact ⟨fun h => (by cases h), fun _ => LTri.leave (fun h => by cases h) (fro_bad w r (7 - d) (by omega) h)⟩
theorem RefCheckRose_ok {r0 : Nat} (hr : 6 ≤ r0) {w0 : World} {h : Hp} (r : Nat → Int) : FnOK (En r0) w0 50 [.agg (roseC r)] h (int (roseE r)) h := by
  refine pure0 (by kernel_rfl) noId_sc (fun w => ?_) hr
  rcases allE_cases r 8 with h | h
  · rw [show roseE r = 0 from h]
    exact FnOK.of_sfunv mixedP noGo Tryz.func50 [(400000, .code (kR [1, 2, 3]) .norm (rfE r 0))]
      [SameO (kR []).ρ (.cells (roseC r) 74 false), Tri (En 6) w 6 true (blk Tryz.f50 0) (rfO r 0) .norm (rfE r 0)] (by kernel_rfl) ⟨sameR r, Tri.rnd blk50o ((fr_all w r 8 (Nat.le_refl _)).1 h)⟩
  · rw [show roseE r = 3 from h]
    exact FnOK.of_sfunv mixedP noGo Tryz.func50 [(400000, .code (kR [1, 2, 3]) .ret (rfE r 3))]
      [SameO (kR []).ρ (.cells (roseC r) 74 false), Tri (En 6) w 6 true (blk Tryz.f50 0) (rfO r 0) .ret (rfE r 3)] (by kernel_rfl) ⟨sameR r, Tri.rnd blk50o ((fr_all w r 8 (Nat.le_refl _)).2 h)⟩
end Go.Proofs.YtmlfcaaecofnjaaGreatDoor
