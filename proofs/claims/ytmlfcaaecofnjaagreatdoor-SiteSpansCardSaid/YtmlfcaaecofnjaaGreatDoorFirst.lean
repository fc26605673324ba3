/- Small functions: when, within, first. -/
import Derived.Test.YtmlfcaaecofnjaaGreatDoorBase
set_option linter.unusedVariables false
namespace Go.Proofs.YtmlfcaaecofnjaaGreatDoor
open Go Go.Proofs Go.RowKit SM
set_option maxRecDepth 100000

theorem when_ok {r : Nat} (hr : 6 ≤ r) {w0 : World} {h : Hp} (b : Bool) (e : Int) : FnOK (En r) w0 75 [boo b, int e] h (int (if b then e else 0)) h := by
  refine pure0 rfl noId_sc (fun w => ?_) hr
  cases b
  · exact FnOK.of_sfunv mixedP noGo Tryz.func75 [] [] (by kernel_rfl) trivial
  · exact FnOK.of_sfunv mixedP noGo Tryz.func75 [] [] (by kernel_rfl) trivial

def rangeE (n a b : Int) : Int := if n < a ∨ n > b then 3 else 0

theorem within_ok {r : Nat} (hr : 6 ≤ r) {w0 : World} {h : Hp} (n a b : Int) : FnOK (En r) w0 95 [int n, int a, int b] h (int (rangeE n a b)) h := by
  refine pure0 rfl noId_sc (fun w => ?_) hr
  by_cases h1 : n < a
  · rw [show rangeE n a b = 3 from if_pos (.inl h1)]
    exact FnOK.of_sfunv mixedP noGo Tryz.func95 [(9, .eq (boo true)), (15, .cv (int 3))] [boo (decide (n < a)) = boo true, CvOK (En 6) w 75 [boo true, int 3] [] (int 3)] (by kernel_rfl) ⟨dec_t h1, fun _ _ => when_ok (Nat.le_refl _) true 3⟩
  · by_cases h2 : n > b
    · rw [show rangeE n a b = 3 from if_pos (.inr h2)]
      exact FnOK.of_sfunv mixedP noGo Tryz.func95 [(9, .eq (boo false)), (13, .eq (boo true)), (15, .cv (int 3))] [boo (decide (n < a)) = boo false, boo (decide (b < n)) = boo true, CvOK (En 6) w 75 [boo true, int 3] [] (int 3)] (by kernel_rfl) ⟨dec_f h1, dec_t h2, fun _ _ => when_ok (Nat.le_refl _) true 3⟩
    · rw [show rangeE n a b = 0 from if_neg (by omega)]
      exact FnOK.of_sfunv mixedP noGo Tryz.func95 [(9, .eq (boo false)), (13, .eq (boo false)), (15, .cv (int 0))] [boo (decide (n < a)) = boo false, boo (decide (b < n)) = boo false, CvOK (En 6) w 75 [boo false, int 3] [] (int 0)] (by kernel_rfl) ⟨dec_f h1, dec_f h2, fun _ _ => when_ok (Nat.le_refl _) false 3⟩

theorem checkTurns_ok {r : Nat} (hr : 6 ≤ r) {w0 : World} {h : Hp} (n : Int) : FnOK (En r) w0 84 [int n] h (int (rangeE n 0 3)) h := by
  refine pure0 rfl noId_sc (fun w => ?_) hr
  exact FnOK.of_sfunv mixedP noGo Tryz.func84 [(4, .cv (int (rangeE n 0 3)))] [CvOK (En 6) w 95 [int n, int 0, int 3] [] (int (rangeE n 0 3))] (by kernel_rfl) (fun _ _ => within_ok (Nat.le_refl _) n 0 3)

theorem CheckRange_ok {r : Nat} (hr : 6 ≤ r) {w0 : World} {h : Hp} (n a b : Int) : FnOK (En r) w0 42 [int n, int a, int b] h (int (rangeE n a b)) h := by
  refine pure0 rfl noId_sc (fun w => ?_) hr
  by_cases h1 : n < a
  · rw [show rangeE n a b = 3 from if_pos (.inl h1)]
    exact FnOK.of_sfunv mixedP noGo Tryz.func42 [(9, .eq (boo true))] [boo (decide (n < a)) = boo true] (by kernel_rfl) (dec_t h1)
  · by_cases h2 : n > b
    · rw [show rangeE n a b = 3 from if_pos (.inr h2)]
      exact FnOK.of_sfunv mixedP noGo Tryz.func42 [(9, .eq (boo false)), (13, .eq (boo true))] [boo (decide (n < a)) = boo false, boo (decide (b < n)) = boo true] (by kernel_rfl) ⟨dec_f h1, dec_t h2⟩
    · rw [show rangeE n a b = 0 from if_neg (by omega)]
      exact FnOK.of_sfunv mixedP noGo Tryz.func42 [(9, .eq (boo false)), (13, .eq (boo false))] [boo (decide (n < a)) = boo false, boo (decide (b < n)) = boo false] (by kernel_rfl) ⟨dec_f h1, dec_f h2⟩

theorem within_cv {r : Nat} (hr : 6 ≤ r) {w0 : World} {n a b e : Int} (h : rangeE n a b = e) : CvOK (En r) w0 95 [int n, int a, int b] [] (int e) := fun _ _ => h ▸ within_ok hr n a b
theorem CheckRange_cv {r : Nat} (hr : 6 ≤ r) {w0 : World} {n a b e : Int} (h : rangeE n a b = e) : CvOK (En r) w0 42 [int n, int a, int b] [] (int e) := fun _ _ => h ▸ CheckRange_ok hr n a b

/-! ### The first error of a list -/
def firstOf : List Int → Int
  | [] => 0
  | x :: l => if x = 0 then firstOf l else x

abbrev k7 (keep : List Nat) : Wk := ⟨7, [(6, 6, true)], keep, [], 7⟩
theorem ints_flat (l : List Int) : ∀ v ∈ l.map int, ∃ x, v = .sc x := fun v hv => by
  obtain ⟨x, _, rfl⟩ := List.mem_map.1 hv
  exact ⟨_, rfl⟩
theorem same_flat {ρ : Nat → Option Nat} {c : List V} {e : TypeId} {sp : Bool} (h : ∀ v ∈ c, ∃ x, v = .sc x) : SameO ρ (.cells c e sp) := fun v hv => by
  obtain ⟨x, rfl⟩ := h v hv
  rfl
theorem ints_get {l : List Int} {k : Nat} (hk : k < l.length) : (l.map int)[0 + k * 1]? = some (int l[k]) := by simp [hk]

noncomputable abbrev fst (l : List Int) (e : TypeId) (sp : Bool) : Hp := ⟨7, mkH [(6, .cells (l.map int) e sp)]⟩
noncomputable abbrev fstS (l : List Int) (e : TypeId) (sp : Bool) (cap : Option Nat) (k : Nat) : St := ⟨frm 15 [(2, int 0), (5, .sl 6 0 l.length 1 cap), (6, int l.length), (7, int k)], 15, fst l e sp, []⟩

theorem first_loop (w : World) (l : List Int) (e : TypeId) (sp : Bool) (cap : Option Nat) (hl : l.length ≤ 1000000) : ∀ (d k : Nat), k + d = l.length →
    (firstOf (l.drop k) = 0 → LTri (En 7) w 7 true (rnd Tryz.f71 0) (fstS l e sp cap k) (.exit 0) ⟨frm 15 [(2, int 0)], 15, fst l e sp, []⟩) ∧
    (firstOf (l.drop k) ≠ 0 → LTri (En 7) w 7 true (rnd Tryz.f71 0) (fstS l e sp cap k) .ret ⟨frm 15 [(2, int (firstOf (l.drop k)))], 15, fst l e sp, []⟩) := by
  intro d
  induction d with
  | zero =>
    intro k hk
    have hd : l.drop k = [] := List.drop_eq_nil_of_le (by omega)
    rw [hd]
    refine ⟨fun _ => ?_, fun h => absurd rfl h⟩
    refine LTri.leave (fun h => by cases h) (Tri.of_pass (S := [(8, .eq (boo false))]) (k7 [2]) mixedP nocall_ok [boo (decide ((k : Int) < (l.length : Int))) = boo false, SameO (k7 []).ρ (.cells (l.map int) e sp)] (by kernel_rfl) ⟨dec_f (by omega), same_flat (ints_flat l)⟩)
  | succ d ih =>
    intro k hk
    have hlt : k < l.length := by omega
    have hd : l.drop k = l[k] :: l.drop (k + 1) := List.drop_eq_getElem_cons hlt
    obtain ⟨i1, i2⟩ := ih (k + 1) (by omega)
    have hw : IntKind.i64.wrap ((k : Int) + 1) = ((k + 1 : Nat) : Int) := by rw [wrap_id (by omega) (by omega)]; omega
    by_cases hx : l[k] = 0
    · have hf : firstOf (l.drop k) = firstOf (l.drop (k + 1)) := by rw [hd]; simp only [firstOf]; rw [if_pos hx]
      have pass : Tri (En 7) w 7 true (rnd Tryz.f71 0) (fstS l e sp cap k) .norm (fstS l e sp cap (k + 1)) :=
        Tri.of_pass (S := [(8, .eq (boo true)), (9, .ix k), (10, .ld (int l[k])), (12, .eq (boo false)), (14, .eq (int (k + 1 : Nat)))]) (k7 [2, 5, 6, 7]) mixedP nocall_ok
          [boo (decide ((k : Int) < (l.length : Int))) = boo true, (k : Int) = (k : Int), k < l.length, (l.map int)[0 + k * 1]? = some (int l[k]), boo (l[k] != 0) = boo false, int (IntKind.i64.wrap (k + 1)) = int (k + 1 : Nat), SameO (k7 []).ρ (.cells (l.map int) e sp)] (by kernel_rfl)
          ⟨dec_t (by omega), rfl, hlt, ints_get hlt, boo_eq (by simp [hx]), int_eq hw, same_flat (ints_flat l)⟩
      rw [hf]
      exact ⟨fun h => LTri.pass pass (i1 h), fun h => LTri.pass pass (i2 h)⟩
    · have hf : firstOf (l.drop k) = l[k] := by rw [hd]; simp only [firstOf]; rw [if_neg hx]
      rw [hf]
      refine ⟨fun h => absurd h hx, fun _ => ?_⟩
      exact LTri.leave (fun h => by cases h) (Tri.of_pass (S := [(8, .eq (boo true)), (9, .ix k), (10, .ld (int l[k])), (12, .eq (boo true))]) (k7 [2]) mixedP nocall_ok
          [boo (decide ((k : Int) < (l.length : Int))) = boo true, (k : Int) = (k : Int), k < l.length, (l.map int)[0 + k * 1]? = some (int l[k]), boo (l[k] != 0) = boo true, SameO (k7 []).ρ (.cells (l.map int) e sp)] (by kernel_rfl)
          ⟨dec_t (by omega), rfl, hlt, ints_get hlt, boo_eq (by simp [hx]), same_flat (ints_flat l)⟩)

theorem blk71 : blk Tryz.f71 0 = .block 0 (.loop (rnd Tryz.f71 0)) := by kernel_rfl

theorem first_ok {r : Nat} (hr : 6 ≤ r) {w0 : World} {h : Hp} (l : List Int) {b : Nat} {e : TypeId} {sp : Bool} {cap : Option Nat} (hl : l.length ≤ 1000000) (hb : h.at_ b = some (.cells (l.map int) e sp)) :
    FnOK (En r) w0 71 [.sl b 0 l.length 1 cap] h (int (firstOf l)) h := by
  refine pure1 (args0 := [.sl 6 0 l.length 1 cap]) noId_sc (flat_cells (ints_flat l)) (fun w => ?_) hr hb (by simp [rvals, rval, rcell, rleaf])
  obtain ⟨i1, i2⟩ := first_loop w l e sp cap hl l.length 0 (by omega)
  rw [List.drop_zero] at i1 i2
  by_cases h0 : firstOf l = 0
  · rw [h0]
    exact FnOK.of_sfunv mixedP noGo Tryz.func71 [(400000, .code (k7 [2, 5, 6, 7]) .norm ⟨frm 15 [(2, int 0)], 15, fst l e sp, []⟩)]
      [SameO (k7 []).ρ (.cells (l.map int) e sp), Tri (En 7) w 7 true (blk Tryz.f71 0) (fstS l e sp cap 0) .norm ⟨frm 15 [(2, int 0)], 15, fst l e sp, []⟩] (by kernel_rfl) ⟨same_flat (ints_flat l), Tri.rnd blk71 (i1 h0)⟩
  · exact FnOK.of_sfunv mixedP noGo Tryz.func71 [(400000, .code (k7 [2, 5, 6, 7]) .ret ⟨frm 15 [(2, int (firstOf l))], 15, fst l e sp, []⟩)]
      [SameO (k7 []).ρ (.cells (l.map int) e sp), Tri (En 7) w 7 true (blk Tryz.f71 0) (fstS l e sp cap 0) .ret ⟨frm 15 [(2, int (firstOf l))], 15, fst l e sp, []⟩] (by kernel_rfl) ⟨same_flat (ints_flat l), Tri.rnd blk71 (i2 h0)⟩
end Go.Proofs.YtmlfcaaecofnjaaGreatDoor
