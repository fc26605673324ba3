/- Roses: turn, sum; the law. -/
import Derived.Test.YtmlfcaaecofnjaaGreatDoorRose2
set_option linter.unusedVariables false
namespace Go.Proofs.YtmlfcaaecofnjaaGreatDoor
open Go Go.Proofs Go.RowKit SM
set_option maxRecDepth 100000

/-! ### nacelleref01.First -/
noncomputable abbrev fsR (l : List Int) (e : TypeId) (sp : Bool) (cap : Option Nat) (k : Nat) : St := ⟨frm 19 [(0, .sl 6 0 l.length 1 cap), (2, int 0), (3, int k)], 19, fst l e sp, []⟩
theorem rfirst_loop (w : World) (l : List Int) (e : TypeId) (sp : Bool) (cap : Option Nat) (hl : l.length ≤ 1000000) : ∀ (d k : Nat), k + d = l.length →
    (firstOf (l.drop k) = 0 → LTri (En 7) w 7 true (rnd Tryz.f82 0) (fsR l e sp cap k) (.exit 0) ⟨frm 19 [(2, int 0)], 19, fst l e sp, []⟩) ∧
    (firstOf (l.drop k) ≠ 0 → LTri (En 7) w 7 true (rnd Tryz.f82 0) (fsR l e sp cap k) .ret ⟨frm 19 [(2, int (firstOf (l.drop k)))], 19, fst l e sp, []⟩) := by
  intro d
  induction d with
  | zero =>
    intro k hk
    have hd : l.drop k = [] := List.drop_eq_nil_of_le (by omega)
    rw [hd]
    refine ⟨fun _ => ?_, fun h => absurd rfl h⟩
    refine LTri.leave (fun h => by cases h) (Tri.of_pass (S := [(7, .eq (boo false))]) (k7 [2]) mixedP nocall_ok [boo (decide ((k : Int) < (l.length : Int))) = boo false, SameO (k7 []).ρ (.cells (l.map int) e sp)] (by kernel_rfl) ⟨dec_f (by omega), same_flat (ints_flat l)⟩)
  | succ d ih =>
    intro k hk
    have hlt : k < l.length := by omega
    have hd : l.drop k = l[k] :: l.drop (k + 1) := List.drop_eq_getElem_cons hlt
    obtain ⟨i1, i2⟩ := ih (k + 1) (by omega)
    by_cases hx : l[k] = 0
    · have hf : firstOf (l.drop k) = firstOf (l.drop (k + 1)) := by rw [hd]; simp only [firstOf]; rw [if_pos hx]
      have pass : Tri (En 7) w 7 true (rnd Tryz.f82 0) (fsR l e sp cap k) .norm (fsR l e sp cap (k + 1)) :=
        Tri.of_pass (S := [(7, .eq (boo true)), (12, .ix k), (13, .ld (int l[k])), (14, .eq (boo false)), (9, .eq (int (k + 1 : Nat)))]) (k7 [0, 2, 3]) mixedP nocall_ok
          [boo (decide ((k : Int) < (l.length : Int))) = boo true, (k : Int) = (k : Int), k < l.length, (l.map int)[0 + k * 1]? = some (int l[k]), boo (l[k] != 0) = boo false, int (IntKind.i64.wrap (k + 1)) = int (k + 1 : Nat), SameO (k7 []).ρ (.cells (l.map int) e sp)] (by kernel_rfl)
          ⟨dec_t (by omega), rfl, hlt, ints_get hlt, boo_eq (by simp [hx]), hwrap (by omega), same_flat (ints_flat l)⟩
      rw [hf]
      exact ⟨fun h => LTri.pass pass (i1 h), fun h => LTri.pass pass (i2 h)⟩
    · have hf : firstOf (l.drop k) = l[k] := by rw [hd]; simp only [firstOf]; rw [if_neg hx]
      rw [hf]
      refine ⟨fun h => absurd h hx, fun _ => ?_⟩
      exact LTri.leave (fun h => by cases h) (Tri.of_pass (S := [(7, .eq (boo true)), (12, .ix k), (13, .ld (int l[k])), (14, .eq (boo true)), (17, .ix k), (18, .ld (int l[k]))]) (k7 [2]) mixedP nocall_ok
          [boo (decide ((k : Int) < (l.length : Int))) = boo true, (k : Int) = (k : Int), k < l.length, (l.map int)[0 + k * 1]? = some (int l[k]), boo (l[k] != 0) = boo true, (k : Int) = (k : Int), k < l.length, (l.map int)[0 + k * 1]? = some (int l[k]), SameO (k7 []).ρ (.cells (l.map int) e sp)] (by kernel_rfl)
          ⟨dec_t (by omega), rfl, hlt, ints_get hlt, boo_eq (by simp [hx]), rfl, hlt, ints_get hlt, same_flat (ints_flat l)⟩)
theorem blk82 : blk Tryz.f82 0 = .block 0 (.loop (rnd Tryz.f82 0)) := by kernel_rfl
theorem First_ok {r : Nat} (hr : 6 ≤ r) {w0 : World} {h : Hp} (l : List Int) {b : Nat} {e : TypeId} {sp : Bool} {cap : Option Nat} (hl : l.length ≤ 1000000) (hb : h.at_ b = some (.cells (l.map int) e sp)) :
    FnOK (En r) w0 82 [.sl b 0 l.length 1 cap] h (int (firstOf l)) h := by
  refine pure1 (args0 := [.sl 6 0 l.length 1 cap]) noId_sc (flat_cells (ints_flat l)) (fun w => ?_) hr hb (by simp [rvals, rval, rcell, rleaf])
  obtain ⟨i1, i2⟩ := rfirst_loop w l e sp cap hl l.length 0 (by omega)
  rw [List.drop_zero] at i1 i2
  by_cases h0 : firstOf l = 0
  · rw [h0]
    exact FnOK.of_sfunv mixedP noGo Tryz.func82 [(400000, .code (k7 [0, 2, 3]) .norm ⟨frm 19 [(2, int 0)], 19, fst l e sp, []⟩)]
      [SameO (k7 []).ρ (.cells (l.map int) e sp), Tri (En 7) w 7 true (blk Tryz.f82 0) (fsR l e sp cap 0) .norm ⟨frm 19 [(2, int 0)], 19, fst l e sp, []⟩] (by kernel_rfl) ⟨same_flat (ints_flat l), Tri.rnd blk82 (i1 h0)⟩
  · exact FnOK.of_sfunv mixedP noGo Tryz.func82 [(400000, .code (k7 [0, 2, 3]) .ret ⟨frm 19 [(2, int (firstOf l))], 19, fst l e sp, []⟩)]
      [SameO (k7 []).ρ (.cells (l.map int) e sp), Tri (En 7) w 7 true (blk Tryz.f82 0) (fsR l e sp cap 0) .ret ⟨frm 19 [(2, int (firstOf l))], 19, fst l e sp, []⟩] (by kernel_rfl) ⟨same_flat (ints_flat l), Tri.rnd blk82 (i2 h0)⟩
theorem lawFirst_ok {r : Nat} (hr : 6 ≤ r) {w0 : World} {h : Hp} (l : List Int) {b : Nat} {e : TypeId} {sp : Bool} {cap : Option Nat} (hl : l.length ≤ 1000000) (hb : h.at_ b = some (.cells (l.map int) e sp)) :
    FnOK (En r) w0 28 [.sl b 0 l.length 1 cap] h (int (firstOf l)) h := by
  refine pure1 (args0 := [.sl 6 0 l.length 1 cap]) noId_sc (flat_cells (ints_flat l)) (fun w => ?_) hr hb (by simp [rvals, rval, rcell, rleaf])
  exact FnOK.of_sfunv mixedP noGo Tryz.func28 [(4, .cv (int (firstOf l)))] [CvOK (En 7) w 82 [.sl 6 0 l.length 1 cap] [(6, .cells (l.map int) e sp)] (int (firstOf l))] (by kernel_rfl) (fun h hh => First_ok (by omega) l hl hh.1)
theorem first_cv {r : Nat} (hr : 6 ≤ r) {w0 : World} {l : List Int} {n b : Nat} {e : TypeId} {sp : Bool} {cap : Option Nat} {c : List V} {x : Int} (hn : n = l.length) (hc : c = l.map int) (hl : l.length ≤ 1000000) (hx : firstOf l = x) : CvOK (En r) w0 71 [.sl b 0 n 1 cap] [(b, .cells c e sp)] (int x) := fun h hh => by
  subst hn; subst hc; subst hx
  exact first_ok hr l hl hh.1
theorem lawFirst_cv {r : Nat} (hr : 6 ≤ r) {w0 : World} {l : List Int} {n b : Nat} {e : TypeId} {sp : Bool} {cap : Option Nat} {c : List V} {x : Int} (hn : n = l.length) (hc : c = l.map int) (hl : l.length ≤ 1000000) (hx : firstOf l = x) : CvOK (En r) w0 28 [.sl b 0 n 1 cap] [(b, .cells c e sp)] (int x) := fun h hh => by
  subst hn; subst hc; subst hx
  exact lawFirst_ok hr l hl hh.1

/-! ### Turns, sums -/
def turnF (q : Nat) (r : Nat → Int) (j : Nat) : Int := r (51 * ((j / 51 + 8 - 2 * q) % 8) + j % 51)
def zeroR : Nat → Int := fun _ => 0
def sumW (r : Nat → Int) : Int := (List.range 408).foldl (fun a j => IntKind.i64.wrap (a + r j)) 0

theorem CheckRose_cv {r0 : Nat} (hr : 6 ≤ r0) {w0 : World} {r : Nat → Int} {e : Int} (h : roseE r = e) : CvOK (En r0) w0 56 [.agg (roseC r)] [] (int e) := fun _ _ => h ▸ CheckRose_ok hr r
theorem RefCheckRose_cv {r0 : Nat} (hr : 6 ≤ r0) {w0 : World} {r : Nat → Int} {e : Int} (h : roseE r = e) : CvOK (En r0) w0 50 [.agg (roseC r)] [] (int e) := fun _ _ => h ▸ RefCheckRose_ok hr r
theorem checkTurns_cv {r : Nat} (hr : 6 ≤ r) {w0 : World} {n e : Int} (h : rangeE n 0 3 = e) : CvOK (En r) w0 84 [int n] [] (int e) := fun _ _ => h ▸ checkTurns_ok hr n

theorem TurnRose_good {r0 : Nat} (hr : 6 ≤ r0) {w0 : World} (r : Nat → Int) (q : Nat) (hq : q < 4) (hg : roseE r = 0) : CvOK (En r0) w0 52 [.agg (roseC r), int q] [] (.tup [.agg (roseC (turnF q r)), int 0]) := by
  intro h _
  refine pure0 (by kernel_rfl) (noId_of (by kernel_rfl)) (fun w => ?_) hr
  have go : ∀ q : Nat, rangeE (q : Int) 0 3 = 0 → sfunv (En 6) w [(11, .cv (int 0)), (13, .cv (int 0)), (15, .cv (int 0))] Tryz.f52 [.agg (roseC r), int q] ⟨6, mkH []⟩ = some (.tup [.agg (roseC (turnF q r)), int 0],
      [CvOK (En 6) w 56 [.agg (roseC r)] [] (int 0), CvOK (En 6) w 84 [int q] [] (int 0), CvOK (En 6) w 71 [.sl 8 0 2 1 (some 2)] [(8, .cells [int 0, int 0] 27 false)] (int 0)]) → ∃ h1, FnOK (En 6) w 52 [.agg (roseC r), int q] ⟨6, mkH []⟩ (.tup [.agg (roseC (turnF q r)), int 0]) h1 := fun q hq e =>
    FnOK.of_sfunv mixedP noGo Tryz.func52 _ _ e ⟨CheckRose_cv (Nat.le_refl _) hg, checkTurns_cv (Nat.le_refl _) hq, first_cv (l := [0, 0]) (Nat.le_refl _) rfl rfl (by decide) rfl⟩
  obtain rfl | rfl | rfl | rfl : q = 0 ∨ q = 1 ∨ q = 2 ∨ q = 3 := by omega
  · exact go 0 (by decide) (by kernel_rfl)
  · exact go 1 (by decide) (by kernel_rfl)
  · exact go 2 (by decide) (by kernel_rfl)
  · exact go 3 (by decide) (by kernel_rfl)
theorem TurnRose_bad {r0 : Nat} (hr : 6 ≤ r0) {w0 : World} (r : Nat → Int) (q : Int) (hb : roseE r ≠ 0 ∨ rangeE q 0 3 ≠ 0) : CvOK (En r0) w0 52 [.agg (roseC r), int q] [] (.tup [.agg (roseC zeroR), int 3]) := by
  intro h _
  refine pure0 (by kernel_rfl) (noId_of (by kernel_rfl)) (fun w => ?_) hr
  have go : ∀ a b : Int, roseE r = a → rangeE q 0 3 = b → firstOf [a, b] = 3 → ∃ h1, FnOK (En 6) w 52 [.agg (roseC r), int q] ⟨6, mkH []⟩ (.tup [.agg (roseC zeroR), int 3]) h1 := fun a b ha hb hf =>
    FnOK.of_sfunv mixedP noGo Tryz.func52 [(11, .cv (int a)), (13, .cv (int b)), (15, .cv (int 3))]
      [CvOK (En 6) w 56 [.agg (roseC r)] [] (int a), CvOK (En 6) w 84 [int q] [] (int b), CvOK (En 6) w 71 [.sl 8 0 2 1 (some 2)] [(8, .cells [int a, int b] 27 false)] (int 3)] (by kernel_rfl)
      ⟨CheckRose_cv (Nat.le_refl _) ha, checkTurns_cv (Nat.le_refl _) hb, first_cv (l := [a, b]) (Nat.le_refl _) rfl rfl (by simp) hf⟩
  rcases allE_cases r 8 with h1 | h1
  · rcases rangeE_cases q 0 3 with h2 | h2
    · rcases hb with hb | hb
      · exact absurd h1 hb
      · exact absurd h2 hb
    · exact go 0 3 h1 h2 rfl
  · rcases rangeE_cases q 0 3 with h2 | h2
    · exact go 3 0 h1 h2 rfl
    · exact go 3 3 h1 h2 rfl
theorem RefTurnRose_cv {r0 : Nat} (hr : 6 ≤ r0) {w0 : World} (r : Nat → Int) (q : Nat) (hq : q < 4) : CvOK (En r0) w0 54 [.agg (roseC r), int q] [] (.agg (roseC (turnF q r))) := by
  intro h _
  refine pure0 (by kernel_rfl) (noId_of (by kernel_rfl)) (fun w => ?_) hr
  obtain rfl | rfl | rfl | rfl : q = 0 ∨ q = 1 ∨ q = 2 ∨ q = 3 := by omega
  all_goals exact FnOK.of_sfunv mixedP noGo Tryz.func54 [] [] (by kernel_rfl) trivial
theorem Quarters_good {r0 : Nat} (hr : 6 ≤ r0) {w0 : World} (r : Nat → Int) (hg : roseE r = 0) : CvOK (En r0) w0 53 [.agg (roseC r)] [] (.tup [int (sumW r), int 0]) := by
  intro h _
  refine pure0 (by kernel_rfl) (noId_of (by kernel_rfl)) (fun w => ?_) hr
  exact FnOK.of_sfunv mixedP noGo Tryz.func53 [(11, .cv (int 0))] [CvOK (En 6) w 56 [.agg (roseC r)] [] (int 0)] (by kernel_rfl) (CheckRose_cv (Nat.le_refl _) hg)
theorem Quarters_bad {r0 : Nat} (hr : 6 ≤ r0) {w0 : World} (r : Nat → Int) (hg : roseE r = 3) : CvOK (En r0) w0 53 [.agg (roseC r)] [] (.tup [int 0, int 3]) := by
  intro h _
  refine pure0 (by kernel_rfl) (noId_of (by kernel_rfl)) (fun w => ?_) hr
  exact FnOK.of_sfunv mixedP noGo Tryz.func53 [(11, .cv (int 3))] [CvOK (En 6) w 56 [.agg (roseC r)] [] (int 3)] (by kernel_rfl) (CheckRose_cv (Nat.le_refl _) hg)
theorem RefQuarters_cv {r0 : Nat} (hr : 6 ≤ r0) {w0 : World} (r : Nat → Int) : CvOK (En r0) w0 55 [.agg (roseC r)] [] (int (sumW r)) := by
  intro h _
  refine pure0 (by kernel_rfl) noId_sc (fun w => ?_) hr
  exact FnOK.of_sfunv mixedP noGo Tryz.func55 [] [] (by kernel_rfl) trivial

/-- number, where it is so. -/
theorem number_bad {r0 : Nat} (hr : 6 ≤ r0) {w0 : World} {bad want : Int} (hb : bad ≠ 0) : CvOK (En r0) w0 24 [int 0, int bad, int bad, int want] [] (boo true) := by
  intro h _
  refine pure0 rfl noId_sc (fun w => ?_) hr
  exact FnOK.of_sfunv mixedP noGo Tryz.func24 [(10, .eq (boo true)), (16, .eq (boo true))] [boo (bad != 0) = boo true, boo (bad == bad) = boo true] (by kernel_rfl) ⟨boo_eq (by simp [hb]), boo_eq (by simp)⟩
theorem number_good {r0 : Nat} (hr : 6 ≤ r0) {w0 : World} {n : Int} : CvOK (En r0) w0 24 [int n, int 0, int 0, int n] [] (boo true) := by
  intro h _
  refine pure0 rfl noId_sc (fun w => ?_) hr
  exact FnOK.of_sfunv mixedP noGo Tryz.func24 [(23, .eq (boo true))] [boo (n == n) = boo true] (by kernel_rfl) (boo_eq (by simp))

/-! ### The law -/
theorem roseEq_refl (a : Nat → Int) : roseEq a a = true := (roseEq_iff a a).2 fun _ _ => rfl
theorem SiteRoses_fn (w : World) (ha : CvOK (En 6) w 11 [] [] (boo true)) (r : Nat → Int) (q : Int) : ∃ h1, FnOK (En 6) w 8 [.agg (roseC r), int q] ⟨6, mkH []⟩ (boo true) h1 := by
  have bin : ∀ a : Nat → Int, BinIs (En 6) .eql 74 (.tmp 45) (.tmp 46) (.agg ⟨roseV a⟩) (.agg ⟨roseV a⟩) true := fun a => rose_eql 74 und74 grd74 _ _ a a (roseEq_refl a)
  rcases rangeE_cases q 0 3 with h2 | h2
  · obtain ⟨m, hm, rfl⟩ : ∃ m : Nat, m < 4 ∧ q = (m : Int) := by
      unfold rangeE at h2
      split at h2
      · cases h2
      · exact ⟨q.toNat, by omega, by omega⟩
    rcases allE_cases r 8 with h1 | h1
    · exact FnOK.of_sfunv mixedP noGo Tryz.func8 [(16, .cv (.tup [.agg (roseC (turnF m r)), int 0])), (21, .cv (.tup [int (sumW r), int 0])), (25, .cv (int 0)), (28, .cv (int 0)), (30, .cv (int 0)), (35, .cv (.agg (roseC (turnF m r)))), (39, .cv (int (sumW r))), (41, .cv (int 0)), (47, .bin true), (59, .cv (boo true)), (62, .cv (boo true))]
        [CvOK (En 6) w 52 [.agg (roseC r), int m] [] (.tup [.agg (roseC (turnF m r)), int 0]), CvOK (En 6) w 53 [.agg (roseC r)] [] (.tup [int (sumW r), int 0]), CvOK (En 6) w 50 [.agg (roseC r)] [] (int 0), CvOK (En 6) w 42 [int m, int 0, int 3] [] (int 0),
          CvOK (En 6) w 28 [.sl 8 0 2 1 (some 2)] [(8, .cells [int 0, int 0] 3 false)] (int 0), CvOK (En 6) w 54 [.agg (roseC r), int m] [] (.agg (roseC (turnF m r))), CvOK (En 6) w 55 [.agg (roseC r)] [] (int (sumW r)), CvOK (En 6) w 56 [.agg (roseC r)] [] (int 0),
          BinIs (En 6) .eql 74 (.tmp 45) (.tmp 46) (.agg ⟨roseV (turnF m r)⟩) (.agg ⟨roseV (turnF m r)⟩) true, CvOK (En 6) w 24 [int (sumW r), int 0, int 0, int (sumW r)] [] (boo true), CvOK (En 6) w 11 [] [] (boo true)] (by kernel_rfl)
        ⟨TurnRose_good (Nat.le_refl _) r m hm h1, Quarters_good (Nat.le_refl _) r h1, RefCheckRose_cv (Nat.le_refl _) h1, CheckRange_cv (Nat.le_refl _) h2, lawFirst_cv (l := [0, 0]) (Nat.le_refl _) rfl rfl (by decide) rfl, RefTurnRose_cv (Nat.le_refl _) r m hm, RefQuarters_cv (Nat.le_refl _) r, CheckRose_cv (Nat.le_refl _) h1, bin _, number_good (Nat.le_refl _), ha⟩
    · exact FnOK.of_sfunv mixedP noGo Tryz.func8 [(16, .cv (.tup [.agg (roseC zeroR), int 3])), (21, .cv (.tup [int 0, int 3])), (25, .cv (int 3)), (28, .cv (int 0)), (30, .cv (int 3)), (41, .cv (int 3)), (47, .bin true), (59, .cv (boo true)), (62, .cv (boo true))]
        [CvOK (En 6) w 52 [.agg (roseC r), int m] [] (.tup [.agg (roseC zeroR), int 3]), CvOK (En 6) w 53 [.agg (roseC r)] [] (.tup [int 0, int 3]), CvOK (En 6) w 50 [.agg (roseC r)] [] (int 3), CvOK (En 6) w 42 [int m, int 0, int 3] [] (int 0),
          CvOK (En 6) w 28 [.sl 8 0 2 1 (some 2)] [(8, .cells [int 3, int 0] 3 false)] (int 3), CvOK (En 6) w 56 [.agg (roseC r)] [] (int 3),
          BinIs (En 6) .eql 74 (.tmp 45) (.tmp 46) (.agg ⟨roseV zeroR⟩) (.agg ⟨roseV zeroR⟩) true, CvOK (En 6) w 24 [int 0, int 3, int 3, int 0] [] (boo true), CvOK (En 6) w 11 [] [] (boo true)] (by kernel_rfl)
        ⟨TurnRose_bad (Nat.le_refl _) r m (.inl (by rw [show roseE r = 3 from h1]; decide)), Quarters_bad (Nat.le_refl _) r h1, RefCheckRose_cv (Nat.le_refl _) h1, CheckRange_cv (Nat.le_refl _) h2, lawFirst_cv (l := [3, 0]) (Nat.le_refl _) rfl rfl (by decide) rfl, CheckRose_cv (Nat.le_refl _) h1, bin _, number_bad (Nat.le_refl _) (by decide), ha⟩
  · rcases allE_cases r 8 with h1 | h1
    · exact FnOK.of_sfunv mixedP noGo Tryz.func8 [(16, .cv (.tup [.agg (roseC zeroR), int 3])), (21, .cv (.tup [int (sumW r), int 0])), (25, .cv (int 0)), (28, .cv (int 3)), (30, .cv (int 3)), (39, .cv (int (sumW r))), (41, .cv (int 0)), (47, .bin true), (59, .cv (boo true)), (62, .cv (boo true))]
        [CvOK (En 6) w 52 [.agg (roseC r), int q] [] (.tup [.agg (roseC zeroR), int 3]), CvOK (En 6) w 53 [.agg (roseC r)] [] (.tup [int (sumW r), int 0]), CvOK (En 6) w 50 [.agg (roseC r)] [] (int 0), CvOK (En 6) w 42 [int q, int 0, int 3] [] (int 3),
          CvOK (En 6) w 28 [.sl 8 0 2 1 (some 2)] [(8, .cells [int 0, int 3] 3 false)] (int 3), CvOK (En 6) w 55 [.agg (roseC r)] [] (int (sumW r)), CvOK (En 6) w 56 [.agg (roseC r)] [] (int 0),
          BinIs (En 6) .eql 74 (.tmp 45) (.tmp 46) (.agg ⟨roseV zeroR⟩) (.agg ⟨roseV zeroR⟩) true, CvOK (En 6) w 24 [int (sumW r), int 0, int 0, int (sumW r)] [] (boo true), CvOK (En 6) w 11 [] [] (boo true)] (by kernel_rfl)
        ⟨TurnRose_bad (Nat.le_refl _) r q (.inr (by rw [h2]; decide)), Quarters_good (Nat.le_refl _) r h1, RefCheckRose_cv (Nat.le_refl _) h1, CheckRange_cv (Nat.le_refl _) h2, lawFirst_cv (l := [0, 3]) (Nat.le_refl _) rfl rfl (by decide) rfl, RefQuarters_cv (Nat.le_refl _) r, CheckRose_cv (Nat.le_refl _) h1, bin _, number_good (Nat.le_refl _), ha⟩
    · exact FnOK.of_sfunv mixedP noGo Tryz.func8 [(16, .cv (.tup [.agg (roseC zeroR), int 3])), (21, .cv (.tup [int 0, int 3])), (25, .cv (int 3)), (28, .cv (int 3)), (30, .cv (int 3)), (41, .cv (int 3)), (47, .bin true), (59, .cv (boo true)), (62, .cv (boo true))]
        [CvOK (En 6) w 52 [.agg (roseC r), int q] [] (.tup [.agg (roseC zeroR), int 3]), CvOK (En 6) w 53 [.agg (roseC r)] [] (.tup [int 0, int 3]), CvOK (En 6) w 50 [.agg (roseC r)] [] (int 3), CvOK (En 6) w 42 [int q, int 0, int 3] [] (int 3),
          CvOK (En 6) w 28 [.sl 8 0 2 1 (some 2)] [(8, .cells [int 3, int 3] 3 false)] (int 3), CvOK (En 6) w 56 [.agg (roseC r)] [] (int 3),
          BinIs (En 6) .eql 74 (.tmp 45) (.tmp 46) (.agg ⟨roseV zeroR⟩) (.agg ⟨roseV zeroR⟩) true, CvOK (En 6) w 24 [int 0, int 3, int 3, int 0] [] (boo true), CvOK (En 6) w 11 [] [] (boo true)] (by kernel_rfl)
        ⟨TurnRose_bad (Nat.le_refl _) r q (.inl (by rw [show roseE r = 3 from h1]; decide)), Quarters_bad (Nat.le_refl _) r h1, RefCheckRose_cv (Nat.le_refl _) h1, CheckRange_cv (Nat.le_refl _) h2, lawFirst_cv (l := [3, 3]) (Nat.le_refl _) rfl rfl (by decide) rfl, CheckRose_cv (Nat.le_refl _) h1, bin _, number_bad (Nat.le_refl _) (by decide), ha⟩
#print axioms SiteRoses_fn
end Go.Proofs.YtmlfcaaecofnjaaGreatDoor
