/- Spans: checks, totals, copies, equal lists. -/
import Derived.Test.YtmlfcaaecofnjaaGreatDoorFirst
import Derived.Laws.StructEq
set_option linter.unusedVariables false
namespace Go.Proofs.YtmlfcaaecofnjaaGreatDoor
open Go Go.Proofs Go.RowKit SM
set_option maxRecDepth 100000

theorem hwr {v : Nat} (h : v < 100000000) : int (IntKind.i64.wrap ((v : Int) + 1)) = int ((v + 1 : Nat) : Int) := int_eq (by rw [wrap_id (by omega) (by omega)]; omega)

/-- Cells that name no block, or that are not known. -/
def FlatC (c : List V) : Prop := ∀ v ∈ c, v = .unk ∨ ∃ x, v = .sc x
theorem flatO {c : List V} {e : TypeId} {sp : Bool} (h : FlatC c) : Flat (.cells c e sp) := by
  refine ⟨rfl, fun σ τ o' r => ?_⟩
  cases r with
  | cells hl h0 hc =>
    refine .cells hl h0 fun i v hv => ?_
    obtain ⟨v', h1, h2⟩ := hc i v hv
    rcases h v (List.mem_of_getElem? hv) with rfl | ⟨x, rfl⟩
    · exact ⟨v', h1, .unk⟩
    · refine ⟨v', h1, ?_⟩
      cases h2 with
      | leaf h2 => cases h2 with
        | sc h2 => exact .leaf (.sc h2)
theorem sameO {ρ : Nat → Option Nat} {c : List V} {e : TypeId} {sp : Bool} (h : FlatC c) : SameO ρ (.cells c e sp) := fun v hv => by
  rcases h v hv with rfl | ⟨x, rfl⟩ <;> rfl

/-! ### A row of spans -/
abbrev Sp := Int × Int
def enc2 (s : Sp) : List V := [int s.1, int s.2]
def encS (l : List Sp) : List V := l.flatMap enc2
theorem encS_len (l : List Sp) : (encS l).length = l.length * 2 := by
  induction l with
  | nil => rfl
  | cons s r ih => show (enc2 s ++ encS r).length = _; simp [enc2, ih]; omega
theorem encS_app (l m : List Sp) : encS (l ++ m) = encS l ++ encS m := by simp [encS]
theorem encS_flat (l : List Sp) : FlatC (encS l) := fun v hv => by
  obtain ⟨s, _, hs⟩ := List.mem_flatMap.1 hv
  simp [enc2] at hs
  rcases hs with rfl | rfl
  · exact .inr ⟨_, rfl⟩
  · exact .inr ⟨_, rfl⟩
theorem encS_drop (l : List Sp) (k : Nat) : (encS l).drop (k * 2) = encS (l.drop k) := by
  induction l generalizing k with
  | nil => simp [encS]
  | cons s r ih =>
    cases k with
    | zero => simp
    | succ k =>
      show (enc2 s ++ encS r).drop ((k + 1) * 2) = _
      rw [show (k + 1) * 2 = k * 2 + 2 by omega]
      simp only [enc2, List.cons_append, List.nil_append, List.drop_succ_cons]
      exact ih k

/-- From cell o on, the cells are these spans. -/
structure Row2 (c : List V) (o : Nat) (l : List Sp) : Prop where
  cut : (c.drop o).take (l.length * 2) = encS l
  flat : FlatC c
theorem Row2.at_ {c : List V} {o : Nat} {l : List Sp} (r : Row2 c o l) {k : Nat} (hk : k < l.length) : (c.drop (o + k * 2)).take 2 = [int l[k].1, int l[k].2] := by
  have h1 : ((c.drop o).take (l.length * 2)).drop (k * 2) = encS (l.drop k) := by rw [r.cut, encS_drop]
  rw [List.drop_eq_getElem_cons hk] at h1
  have h2 := congrArg (List.take 2) h1
  have e1 : (encS (l[k] :: l.drop (k + 1))).take 2 = [int l[k].1, int l[k].2] := rfl
  rw [e1, List.drop_take, List.drop_drop, List.take_take] at h2
  rw [Nat.min_eq_left (by omega)] at h2
  exact h2
theorem Row2.at0 {c : List V} {o : Nat} {l : List Sp} (r : Row2 c o l) {k : Nat} (hk : k < l.length) : c[o + k * 2 + 0]? = some (int l[k].1) := by
  have := congrArg (fun l => l[0]?) (r.at_ hk)
  simpa [List.getElem?_take] using this
theorem Row2.at1 {c : List V} {o : Nat} {l : List Sp} (r : Row2 c o l) {k : Nat} (hk : k < l.length) : c[o + k * 2 + 1]? = some (int l[k].2) := by
  have := congrArg (fun l => l[1]?) (r.at_ hk)
  simpa [List.getElem?_take] using this
theorem Row2.len {c : List V} {o : Nat} {l : List Sp} (r : Row2 c o l) (h : l ≠ []) : o + l.length * 2 ≤ c.length := by
  have := congrArg List.length r.cut
  rw [encS_len] at this
  have h0 : 0 < l.length := List.length_pos_iff.2 h
  simp at this
  omega
theorem row2_enc (l : List Sp) : Row2 (encS l) 0 l := ⟨by rw [List.drop_zero, List.take_of_length_le (by rw [encS_len]; omega)], encS_flat l⟩

/-! ### One span -/
def spanE (s : Sp) : Int := if s.1 < 0 ∨ s.2 ≤ s.1 ∨ 40000 < s.2 then 14 else 0
theorem spanE_cases (s : Sp) : spanE s = 0 ∨ spanE s = 14 := by unfold spanE; split <;> simp
theorem spanE_zero {s : Sp} (h : spanE s = 0) : 0 ≤ s.1 ∧ s.1 < s.2 ∧ s.2 ≤ 40000 := by
  unfold spanE at h
  split at h
  · cases h
  · omega
theorem when_cv {r : Nat} (hr : 6 ≤ r) {w0 : World} (b : Bool) (e : Int) : CvOK (En r) w0 75 [boo b, int e] [] (int (if b then e else 0)) := fun _ _ => when_ok hr b e
theorem CheckSpan_cv {r : Nat} (hr : 6 ≤ r) {w0 : World} {s : Sp} {x : Int} (hx : spanE s = x) : CvOK (En r) w0 20 [.agg [int s.1, int s.2]] [] (int x) := by
  intro h _
  subst hx
  obtain ⟨a, b⟩ := s
  refine pure0 rfl noId_sc (fun w => ?_) hr
  by_cases h1 : a < 0
  · rw [show spanE (a, b) = 14 from if_pos (.inl h1)]
    exact FnOK.of_sfunv mixedP noGo Tryz.func20 [(5, .eq (boo true)), (18, .cv (int 14))] [boo (decide (a < 0)) = boo true, CvOK (En 6) w 75 [boo true, int 14] [] (int 14)] (by kernel_rfl) ⟨dec_t h1, when_cv (Nat.le_refl _) true 14⟩
  · by_cases h2 : b ≤ a
    · rw [show spanE (a, b) = 14 from if_pos (.inr (.inl h2))]
      exact FnOK.of_sfunv mixedP noGo Tryz.func20 [(5, .eq (boo false)), (11, .eq (boo true)), (18, .cv (int 14))] [boo (decide (a < 0)) = boo false, boo (decide (b ≤ a)) = boo true, CvOK (En 6) w 75 [boo true, int 14] [] (int 14)] (by kernel_rfl) ⟨dec_f h1, dec_t h2, when_cv (Nat.le_refl _) true 14⟩
    · by_cases h3 : 40000 < b
      · rw [show spanE (a, b) = 14 from if_pos (.inr (.inr h3))]
        exact FnOK.of_sfunv mixedP noGo Tryz.func20 [(5, .eq (boo false)), (11, .eq (boo false)), (16, .eq (boo true)), (18, .cv (int 14))] [boo (decide (a < 0)) = boo false, boo (decide (b ≤ a)) = boo false, boo (decide (40000 < b)) = boo true, CvOK (En 6) w 75 [boo true, int 14] [] (int 14)] (by kernel_rfl) ⟨dec_f h1, dec_f h2, dec_t h3, when_cv (Nat.le_refl _) true 14⟩
      · rw [show spanE (a, b) = 0 from if_neg (by simp only; omega)]
        exact FnOK.of_sfunv mixedP noGo Tryz.func20 [(5, .eq (boo false)), (11, .eq (boo false)), (16, .eq (boo false)), (18, .cv (int 0))] [boo (decide (a < 0)) = boo false, boo (decide (b ≤ a)) = boo false, boo (decide (40000 < b)) = boo false, CvOK (En 6) w 75 [boo false, int 14] [] (int 0)] (by kernel_rfl) ⟨dec_f h1, dec_f h2, dec_f h3, when_cv (Nat.le_refl _) false 14⟩
theorem RefCheckSpan_cv {r : Nat} (hr : 6 ≤ r) {w0 : World} {s : Sp} {x : Int} (hx : spanE s = x) : CvOK (En r) w0 21 [.agg [int s.1, int s.2]] [] (int x) := by
  intro h _
  subst hx
  obtain ⟨a, b⟩ := s
  refine pure0 rfl noId_sc (fun w => ?_) hr
  by_cases h1 : a < 0
  · rw [show spanE (a, b) = 14 from if_pos (.inl h1)]
    exact FnOK.of_sfunv mixedP noGo Tryz.func21 [(5, .eq (boo true))] [boo (decide (a < 0)) = boo true] (by kernel_rfl) (dec_t h1)
  · by_cases h2 : b ≤ a
    · rw [show spanE (a, b) = 14 from if_pos (.inr (.inl h2))]
      exact FnOK.of_sfunv mixedP noGo Tryz.func21 [(5, .eq (boo false)), (11, .eq (boo true))] [boo (decide (a < 0)) = boo false, boo (decide (b ≤ a)) = boo true] (by kernel_rfl) ⟨dec_f h1, dec_t h2⟩
    · by_cases h3 : 40000 < b
      · rw [show spanE (a, b) = 14 from if_pos (.inr (.inr h3))]
        exact FnOK.of_sfunv mixedP noGo Tryz.func21 [(5, .eq (boo false)), (11, .eq (boo false)), (16, .eq (boo true))] [boo (decide (a < 0)) = boo false, boo (decide (b ≤ a)) = boo false, boo (decide (40000 < b)) = boo true] (by kernel_rfl) ⟨dec_f h1, dec_f h2, dec_t h3⟩
      · rw [show spanE (a, b) = 0 from if_neg (by simp only; omega)]
        exact FnOK.of_sfunv mixedP noGo Tryz.func21 [(5, .eq (boo false)), (11, .eq (boo false)), (16, .eq (boo false))] [boo (decide (a < 0)) = boo false, boo (decide (b ≤ a)) = boo false, boo (decide (40000 < b)) = boo false] (by kernel_rfl) ⟨dec_f h1, dec_f h2, dec_f h3⟩

/-! ### A list of spans, as an argument -/
/-- The value is a slice over a block with these spans. -/
inductive Arg2 (h : Hp) : V → List (Nat × O) → List Sp → Prop where
  | nil : Arg2 h (.sc (.slice none 0 0)) [] []
  | sl {b o : Nat} {cap : Option Nat} {c : List V} {e : TypeId} {sp : Bool} {l : List Sp} (r : Row2 c o l) (hb : h.at_ b = some (.cells c e sp)) : Arg2 h (.sl b o l.length 2 cap) [(b, .cells c e sp)] l

noncomputable abbrev hA (c : List V) (e : TypeId) (sp : Bool) : Hp := ⟨7, mkH [(6, .cells c e sp)]⟩
abbrev kA (keep : List Nat) : Wk := ⟨7, [(6, 6, true)], keep, [], 7⟩

/-! ### site.CheckSpans -/
def spansE (last : Int) : List Sp → Int
  | [] => 0
  | s :: r => if spanE s = 0 then (if s.1 ≤ last then 11 else spansE s.2 r) else 14
def checkE (l : List Sp) : Int := if 1024 < l.length then 5 else spansE (-1) l
theorem spansE_cases (last : Int) (l : List Sp) : spansE last l = 0 ∨ spansE last l = 11 ∨ spansE last l = 14 := by
  induction l generalizing last with
  | nil => exact .inl rfl
  | cons s r ih =>
    simp only [spansE]
    split
    · split
      · exact .inr (.inl rfl)
      · exact ih _
    · exact .inr (.inr rfl)

noncomputable abbrev cS (c : List V) (e : TypeId) (sp : Bool) (o n : Nat) (cap : Option Nat) (last : Int) (k : Nat) : St := ⟨frm 31 [(2, int 0), (3, int last), (10, .sl 6 o n 2 cap), (11, int n), (12, int k)], 31, hA c e sp, []⟩
noncomputable abbrev cE (c : List V) (e : TypeId) (sp : Bool) (x : Int) : St := ⟨frm 31 [(2, int x)], 31, hA c e sp, []⟩
theorem first2_cv {r : Nat} (hr : 6 ≤ r) {w0 : World} {a b' : Int} {i : Nat} {e : TypeId} {sp : Bool} {x : Int} (hx : firstOf [a, b'] = x) : CvOK (En r) w0 71 [.sl i 0 2 1 (some 2)] [(i, .cells [int a, int b'] e sp)] (int x) := fun h hh => by
  subst hx
  exact first_ok hr [a, b'] (by simp) hh.1

theorem cs_loop (w : World) {c : List V} {e : TypeId} {sp : Bool} {o : Nat} {cap : Option Nat} {l : List Sp} (R : Row2 c o l) (hl : l.length ≤ 1000000) : ∀ (d k : Nat) (last : Int), k + d = l.length →
    (spansE last (l.drop k) = 0 → LTri (En 7) w 7 true (rnd Tryz.f22 0) (cS c e sp o l.length cap last k) (.exit 0) (cE c e sp 0)) ∧
    (spansE last (l.drop k) ≠ 0 → LTri (En 7) w 7 true (rnd Tryz.f22 0) (cS c e sp o l.length cap last k) .ret (cE c e sp (spansE last (l.drop k)))) := by
  intro d
  induction d with
  | zero =>
    intro k last hk
    rw [List.drop_eq_nil_of_le (by omega)]
    refine ⟨fun _ => ?_, fun h => absurd rfl h⟩
    exact LTri.leave (fun h => by cases h) (Tri.of_pass (S := [(13, .eq (boo false))]) (kA [2]) mixedP nocall_ok [boo (decide ((k : Int) < (l.length : Int))) = boo false, SameO (kA []).ρ (.cells c e sp)] (by kernel_rfl) ⟨dec_f (by omega), sameO R.flat⟩)
  | succ d ih =>
    intro k last hk
    have hlt : k < l.length := by omega
    have hd : l.drop k = l[k] :: l.drop (k + 1) := List.drop_eq_getElem_cons hlt
    obtain ⟨i1, i2⟩ := ih (k + 1) l[k].2 (by omega)
    rw [hd]
    have bad : ∀ (x y z : Int) (b : Bool), spanE l[k] = x → decide (l[k].1 ≤ last) = b → (if b then 11 else 0) = y → firstOf [x, y] = z → z ≠ 0 → (z != 0) = true → LTri (En 7) w 7 true (rnd Tryz.f22 0) (cS c e sp o l.length cap last k) .ret (cE c e sp z) := by
      intro x y z b hx hb hy hz hz0 hz1
      refine LTri.leave (fun h => by cases h) (Tri.of_pass (S := [(13, .eq (boo true)), (14, .ix k), (15, .ld (.agg [int l[k].1, int l[k].2])), (17, .cv (int x)), (21, .eq (boo b)), (22, .cv (int y)), (24, .cv (int z)), (26, .eq (boo true))]) (kA [2]) mixedP nocall_ok
        [boo (decide ((k : Int) < (l.length : Int))) = boo true, (k : Int) = (k : Int), k < l.length, (c.drop (o + k * 2)).take 2 = [int l[k].1, int l[k].2], CvOK (En 7) w 20 [.agg [int l[k].1, int l[k].2]] [] (int x), boo (decide (l[k].1 ≤ last)) = boo b, CvOK (En 7) w 75 [boo b, int 11] [] (int y),
          CvOK (En 7) w 71 [.sl 8 0 2 1 (some 2)] [(8, .cells [int x, int y] 27 false)] (int z), int l[k].1 = int l[k].1, boo (decide (l[k].1 ≤ last)) = boo b, boo (z != 0) = boo true, SameO (kA []).ρ (.cells c e sp)] (by kernel_rfl)
        ⟨dec_t (by omega), rfl, hlt, R.at_ hlt, CheckSpan_cv (by omega) hx, boo_eq hb, hy ▸ when_cv (by omega) b 11, first2_cv (by omega) hz, rfl, boo_eq hb, boo_eq hz1, sameO R.flat⟩)
    rcases spanE_cases l[k] with h0 | h0
    · by_cases h1 : l[k].1 ≤ last
      · have : spansE last (l[k] :: l.drop (k + 1)) = 11 := by simp only [spansE]; rw [if_pos h0, if_pos h1]
        rw [this]
        exact ⟨fun h => (by cases h), fun _ => bad 0 11 11 true h0 (decide_eq_true h1) rfl rfl (by decide) rfl⟩
      · have : spansE last (l[k] :: l.drop (k + 1)) = spansE l[k].2 (l.drop (k + 1)) := by simp only [spansE]; rw [if_pos h0, if_neg h1]
        rw [this]
        have pass : Tri (En 7) w 7 true (rnd Tryz.f22 0) (cS c e sp o l.length cap last k) .norm (cS c e sp o l.length cap l[k].2 (k + 1)) :=
          Tri.of_pass (S := [(13, .eq (boo true)), (14, .ix k), (15, .ld (.agg [int l[k].1, int l[k].2])), (17, .cv (int 0)), (21, .eq (boo false)), (22, .cv (int 0)), (24, .cv (int 0)), (30, .eq (int (k + 1 : Nat)))]) (kA [2, 3, 10, 11, 12]) mixedP nocall_ok
            [boo (decide ((k : Int) < (l.length : Int))) = boo true, (k : Int) = (k : Int), k < l.length, (c.drop (o + k * 2)).take 2 = [int l[k].1, int l[k].2], CvOK (En 7) w 20 [.agg [int l[k].1, int l[k].2]] [] (int 0), boo (decide (l[k].1 ≤ last)) = boo false, CvOK (En 7) w 75 [boo false, int 11] [] (int 0),
              CvOK (En 7) w 71 [.sl 8 0 2 1 (some 2)] [(8, .cells [int 0, int 0] 27 false)] (int 0), int l[k].1 = int l[k].1, boo (decide (l[k].1 ≤ last)) = boo false, int (IntKind.i64.wrap ((k : Int) + 1)) = int (k + 1 : Nat), SameO (kA []).ρ (.cells c e sp)] (by kernel_rfl)
            ⟨dec_t (by omega), rfl, hlt, R.at_ hlt, CheckSpan_cv (by omega) h0, dec_f h1, when_cv (by omega) false 11, first2_cv (by omega) rfl, rfl, dec_f h1, hwr (by omega), sameO R.flat⟩
        exact ⟨fun h => LTri.pass pass (i1 h), fun h => LTri.pass pass (i2 h)⟩
    · have : spansE last (l[k] :: l.drop (k + 1)) = 14 := by simp only [spansE]; rw [if_neg (by omega)]
      rw [this]
      refine ⟨fun h => (by cases h), fun _ => ?_⟩
      by_cases h1 : l[k].1 ≤ last
      · exact bad 14 11 14 true h0 (decide_eq_true h1) rfl rfl (by decide) rfl
      · exact bad 14 0 14 false h0 (decide_eq_false h1) rfl rfl (by decide) rfl
theorem blk22 : blk Tryz.f22 0 = .block 0 (.loop (rnd Tryz.f22 0)) := by kernel_rfl
theorem CheckSpans_cv {r : Nat} (hr : 6 ≤ r) {w0 : World} {v : V} {objs : List (Nat × O)} {l : List Sp} (hv : ∀ h, HasAll h objs → Arg2 h v objs l) (hl : l.length ≤ 1000000) {x : Int} (hx : checkE l = x) : CvOK (En r) w0 22 [v] objs (int x) := by
  intro h hh
  subst hx
  cases hv h hh with
  | nil =>
    refine pure0 rfl noId_sc (fun w => ?_) hr
    exact FnOK.of_sfunv mixedP noGo Tryz.func22 [] [] (by kernel_rfl) trivial
  | @sl b o cap c e sp _ R hb =>
    refine pure1 (args0 := [.sl 6 o l.length 2 cap]) noId_sc (flatO R.flat) (fun w => ?_) hr hb (by simp [rvals, rval, rcell, rleaf])
    by_cases hm : 1024 < l.length
    · rw [show checkE l = 5 from if_pos hm]
      exact FnOK.of_sfunv mixedP noGo Tryz.func22 [(9, .eq (boo true))] [boo (decide ((1024 : Int) < (l.length : Int))) = boo true] (by kernel_rfl) (dec_t (by omega))
    · rw [show checkE l = spansE (-1) l from if_neg hm]
      obtain ⟨i1, i2⟩ := cs_loop w (e := e) (sp := sp) (cap := cap) R hl l.length 0 (-1) (by omega)
      rw [List.drop_zero] at i1 i2
      by_cases h0 : spansE (-1) l = 0
      · rw [h0]
        exact FnOK.of_sfunv mixedP noGo Tryz.func22 [(9, .eq (boo false)), (400000, .code (kA [2, 3, 10, 11, 12]) .norm (cE c e sp 0))] [boo (decide ((1024 : Int) < (l.length : Int))) = boo false, SameO (kA []).ρ (.cells c e sp), Tri (En 7) w 7 true (blk Tryz.f22 0) (cS c e sp o l.length cap (-1) 0) .norm (cE c e sp 0)] (by kernel_rfl) ⟨dec_f (by omega), sameO R.flat, Tri.rnd blk22 (i1 h0)⟩
      · exact FnOK.of_sfunv mixedP noGo Tryz.func22 [(9, .eq (boo false)), (400000, .code (kA [2, 3, 10, 11, 12]) .ret (cE c e sp (spansE (-1) l)))] [boo (decide ((1024 : Int) < (l.length : Int))) = boo false, SameO (kA []).ρ (.cells c e sp), Tri (En 7) w 7 true (blk Tryz.f22 0) (cS c e sp o l.length cap (-1) 0) .ret (cE c e sp (spansE (-1) l))] (by kernel_rfl) ⟨dec_f (by omega), sameO R.flat, Tri.rnd blk22 (i2 h0)⟩
/-! ### nacelleref01.CheckSpans -/
noncomputable abbrev rS (c : List V) (e : TypeId) (sp : Bool) (o n : Nat) (cap : Option Nat) (k : Nat) : St := ⟨frm 35 [(0, .sl 6 o n 2 cap), (2, int 0), (3, int k)], 35, hA c e sp, []⟩
noncomputable abbrev rE (c : List V) (e : TypeId) (sp : Bool) (x : Int) : St := ⟨frm 35 [(2, int x)], 35, hA c e sp, []⟩
theorem rs_loop (w : World) {c : List V} {e : TypeId} {sp : Bool} {o : Nat} {cap : Option Nat} {l : List Sp} (R : Row2 c o l) (hl : l.length ≤ 1000000) : ∀ (d k : Nat) (last : Int), k + d = l.length → (k = 0 ∧ last = -1 ∨ ∃ h : k - 1 < l.length, 0 < k ∧ last = l[k - 1].2) →
    (spansE last (l.drop k) = 0 → LTri (En 7) w 7 true (rnd Tryz.f17 0) (rS c e sp o l.length cap k) (.exit 0) (rE c e sp 0)) ∧
    (spansE last (l.drop k) ≠ 0 → LTri (En 7) w 7 true (rnd Tryz.f17 0) (rS c e sp o l.length cap k) .ret (rE c e sp (spansE last (l.drop k)))) := by
  intro d
  induction d with
  | zero =>
    intro k last hk _
    rw [List.drop_eq_nil_of_le (by omega)]
    refine ⟨fun _ => ?_, fun h => absurd rfl h⟩
    exact LTri.leave (fun h => by cases h) (Tri.of_pass (S := [(10, .eq (boo false))]) (kA [2]) mixedP nocall_ok [boo (decide ((k : Int) < (l.length : Int))) = boo false, SameO (kA []).ρ (.cells c e sp)] (by kernel_rfl) ⟨dec_f (by omega), sameO R.flat⟩)
  | succ d ih =>
    intro k last hk hlast
    have hlt : k < l.length := by omega
    have hd : l.drop k = l[k] :: l.drop (k + 1) := List.drop_eq_getElem_cons hlt
    obtain ⟨i1, i2⟩ := ih (k + 1) l[k].2 (by omega) (.inr ⟨by simpa using hlt, by omega, by simp⟩)
    rw [hd]
    rcases spanE_cases l[k] with h0 | h0
    · rcases hlast with ⟨rfl, rfl⟩ | ⟨hk1, hk0, rfl⟩
      · have hz := spanE_zero h0
        have : spansE (-1) (l[0] :: l.drop (0 + 1)) = spansE l[0].2 (l.drop (0 + 1)) := by simp only [spansE]; rw [if_pos h0, if_neg (by omega)]
        rw [this]
        have pass : Tri (En 7) w 7 true (rnd Tryz.f17 0) (rS c e sp o l.length cap 0) .norm (rS c e sp o l.length cap (0 + 1)) :=
          Tri.of_pass (S := [(10, .eq (boo true)), (15, .ix 0), (16, .ld (.agg [int l[0].1, int l[0].2])), (17, .cv (int 0)), (20, .eq (boo false)), (12, .eq (int (0 + 1 : Nat)))]) (kA [0, 2, 3]) mixedP nocall_ok
            [boo (decide (((0 : Nat) : Int) < (l.length : Int))) = boo true, ((0 : Nat) : Int) = ((0 : Nat) : Int), 0 < l.length, (c.drop (o + 0 * 2)).take 2 = [int l[0].1, int l[0].2], CvOK (En 7) w 21 [.agg [int l[0].1, int l[0].2]] [] (int 0), boo (decide ((0 : Int) < ((0 : Nat) : Int))) = boo false, int (IntKind.i64.wrap (((0 : Nat) : Int) + 1)) = int (0 + 1 : Nat), SameO (kA []).ρ (.cells c e sp)] (by kernel_rfl)
            ⟨dec_t (by omega), rfl, hlt, R.at_ hlt, RefCheckSpan_cv (by omega) h0, dec_f (by omega), hwr (by omega), sameO R.flat⟩
        exact ⟨fun h => LTri.pass pass (i1 h), fun h => LTri.pass pass (i2 h)⟩
      · have hsub : int (IntKind.i64.wrap ((k : Int) - 1)) = int ((k - 1 : Nat) : Int) := int_eq (by rw [wrap_id (by omega) (by omega)]; omega)
        by_cases h1 : l[k].1 ≤ l[k - 1].2
        · have : spansE l[k - 1].2 (l[k] :: l.drop (k + 1)) = 11 := by simp only [spansE]; rw [if_pos h0, if_pos h1]
          rw [this]
          refine ⟨fun h => (by cases h), fun _ => ?_⟩
          exact LTri.leave (fun h => by cases h) (Tri.of_pass (S := [(10, .eq (boo true)), (15, .ix k), (16, .ld (.agg [int l[k].1, int l[k].2])), (17, .cv (int 0)), (20, .eq (boo true)), (24, .ix k), (26, .ld (int l[k].1)), (29, .eq (int (k - 1 : Nat))), (30, .ix (k - 1)), (32, .ld (int l[k - 1].2)), (33, .eq (boo true))]) (kA [2]) mixedP nocall_ok
            [boo (decide ((k : Int) < (l.length : Int))) = boo true, (k : Int) = (k : Int), k < l.length, (c.drop (o + k * 2)).take 2 = [int l[k].1, int l[k].2], CvOK (En 7) w 21 [.agg [int l[k].1, int l[k].2]] [] (int 0), boo (decide ((0 : Int) < (k : Int))) = boo true, (k : Int) = (k : Int), k < l.length, c[o + k * 2 + 0]? = some (int l[k].1),
              int (IntKind.i64.wrap ((k : Int) - 1)) = int (k - 1 : Nat), ((k - 1 : Nat) : Int) = ((k - 1 : Nat) : Int), k - 1 < l.length, c[o + (k - 1) * 2 + 1]? = some (int l[k - 1].2), boo (decide (l[k].1 ≤ l[k - 1].2)) = boo true, SameO (kA []).ρ (.cells c e sp)] (by kernel_rfl)
            ⟨dec_t (by omega), rfl, hlt, R.at_ hlt, RefCheckSpan_cv (by omega) h0, dec_t (by omega), rfl, hlt, R.at0 hlt, hsub, rfl, hk1, R.at1 hk1, dec_t h1, sameO R.flat⟩)
        · have : spansE l[k - 1].2 (l[k] :: l.drop (k + 1)) = spansE l[k].2 (l.drop (k + 1)) := by simp only [spansE]; rw [if_pos h0, if_neg h1]
          rw [this]
          have pass : Tri (En 7) w 7 true (rnd Tryz.f17 0) (rS c e sp o l.length cap k) .norm (rS c e sp o l.length cap (k + 1)) :=
            Tri.of_pass (S := [(10, .eq (boo true)), (15, .ix k), (16, .ld (.agg [int l[k].1, int l[k].2])), (17, .cv (int 0)), (20, .eq (boo true)), (24, .ix k), (26, .ld (int l[k].1)), (29, .eq (int (k - 1 : Nat))), (30, .ix (k - 1)), (32, .ld (int l[k - 1].2)), (33, .eq (boo false)), (12, .eq (int (k + 1 : Nat)))]) (kA [0, 2, 3]) mixedP nocall_ok
              [boo (decide ((k : Int) < (l.length : Int))) = boo true, (k : Int) = (k : Int), k < l.length, (c.drop (o + k * 2)).take 2 = [int l[k].1, int l[k].2], CvOK (En 7) w 21 [.agg [int l[k].1, int l[k].2]] [] (int 0), boo (decide ((0 : Int) < (k : Int))) = boo true, (k : Int) = (k : Int), k < l.length, c[o + k * 2 + 0]? = some (int l[k].1),
                int (IntKind.i64.wrap ((k : Int) - 1)) = int (k - 1 : Nat), ((k - 1 : Nat) : Int) = ((k - 1 : Nat) : Int), k - 1 < l.length, c[o + (k - 1) * 2 + 1]? = some (int l[k - 1].2), boo (decide (l[k].1 ≤ l[k - 1].2)) = boo false, int (IntKind.i64.wrap ((k : Int) + 1)) = int (k + 1 : Nat), SameO (kA []).ρ (.cells c e sp)] (by kernel_rfl)
              ⟨dec_t (by omega), rfl, hlt, R.at_ hlt, RefCheckSpan_cv (by omega) h0, dec_t (by omega), rfl, hlt, R.at0 hlt, hsub, rfl, hk1, R.at1 hk1, dec_f h1, hwr (by omega), sameO R.flat⟩
          exact ⟨fun h => LTri.pass pass (i1 h), fun h => LTri.pass pass (i2 h)⟩
    · have : spansE last (l[k] :: l.drop (k + 1)) = 14 := by simp only [spansE]; rw [if_neg (by omega)]
      rw [this]
      refine ⟨fun h => (by cases h), fun _ => ?_⟩
      exact LTri.leave (fun h => by cases h) (Tri.of_pass (S := [(10, .eq (boo true)), (15, .ix k), (16, .ld (.agg [int l[k].1, int l[k].2])), (17, .cv (int 14))]) (kA [2]) mixedP nocall_ok
        [boo (decide ((k : Int) < (l.length : Int))) = boo true, (k : Int) = (k : Int), k < l.length, (c.drop (o + k * 2)).take 2 = [int l[k].1, int l[k].2], CvOK (En 7) w 21 [.agg [int l[k].1, int l[k].2]] [] (int 14), SameO (kA []).ρ (.cells c e sp)] (by kernel_rfl)
        ⟨dec_t (by omega), rfl, hlt, R.at_ hlt, RefCheckSpan_cv (by omega) h0, sameO R.flat⟩)
theorem blk17 : blk Tryz.f17 0 = .block 0 (.loop (rnd Tryz.f17 0)) := by kernel_rfl
theorem RefCheckSpans_cv {r : Nat} (hr : 6 ≤ r) {w0 : World} {v : V} {objs : List (Nat × O)} {l : List Sp} (hv : ∀ h, HasAll h objs → Arg2 h v objs l) (hl : l.length ≤ 1000000) {x : Int} (hx : checkE l = x) : CvOK (En r) w0 17 [v] objs (int x) := by
  intro h hh
  subst hx
  cases hv h hh with
  | nil =>
    refine pure0 rfl noId_sc (fun w => ?_) hr
    exact FnOK.of_sfunv mixedP noGo Tryz.func17 [] [] (by kernel_rfl) trivial
  | @sl b o cap c e sp _ R hb =>
    refine pure1 (args0 := [.sl 6 o l.length 2 cap]) noId_sc (flatO R.flat) (fun w => ?_) hr hb (by simp [rvals, rval, rcell, rleaf])
    by_cases hm : 1024 < l.length
    · rw [show checkE l = 5 from if_pos hm]
      exact FnOK.of_sfunv mixedP noGo Tryz.func17 [(6, .eq (boo true))] [boo (decide ((1024 : Int) < (l.length : Int))) = boo true] (by kernel_rfl) (dec_t (by omega))
    · rw [show checkE l = spansE (-1) l from if_neg hm]
      obtain ⟨i1, i2⟩ := rs_loop w (e := e) (sp := sp) (cap := cap) R hl l.length 0 (-1) (by omega) (.inl ⟨rfl, rfl⟩)
      rw [List.drop_zero] at i1 i2
      by_cases h0 : spansE (-1) l = 0
      · rw [h0]
        exact FnOK.of_sfunv mixedP noGo Tryz.func17 [(6, .eq (boo false)), (400000, .code (kA [0, 2, 3]) .norm (rE c e sp 0))] [boo (decide ((1024 : Int) < (l.length : Int))) = boo false, SameO (kA []).ρ (.cells c e sp), Tri (En 7) w 7 true (blk Tryz.f17 0) (rS c e sp o l.length cap 0) .norm (rE c e sp 0)] (by kernel_rfl) ⟨dec_f (by omega), sameO R.flat, Tri.rnd blk17 (i1 h0)⟩
      · exact FnOK.of_sfunv mixedP noGo Tryz.func17 [(6, .eq (boo false)), (400000, .code (kA [0, 2, 3]) .ret (rE c e sp (spansE (-1) l)))] [boo (decide ((1024 : Int) < (l.length : Int))) = boo false, SameO (kA []).ρ (.cells c e sp), Tri (En 7) w 7 true (blk Tryz.f17 0) (rS c e sp o l.length cap 0) .ret (rE c e sp (spansE (-1) l))] (by kernel_rfl) ⟨dec_f (by omega), sameO R.flat, Tri.rnd blk17 (i2 h0)⟩

/-! ### nacelleref01.CheckAny -/
def anyL : List Sp → Int
  | [] => 0
  | s :: r => if spanE s = 0 then anyL r else 14
def anyE (l : List Sp) : Int := if 1024 < l.length then 5 else anyL l
theorem anyL_cases (l : List Sp) : anyL l = 0 ∨ anyL l = 14 := by
  induction l with
  | nil => exact .inl rfl
  | cons s r ih => simp only [anyL]; split; exact ih; exact .inr rfl
noncomputable abbrev yS (c : List V) (e : TypeId) (sp : Bool) (o n : Nat) (cap : Option Nat) (k : Nat) : St := ⟨frm 19 [(0, .sl 6 o n 2 cap), (2, int 0), (3, int k)], 19, hA c e sp, []⟩
noncomputable abbrev yE (c : List V) (e : TypeId) (sp : Bool) (x : Int) : St := ⟨frm 19 [(2, int x)], 19, hA c e sp, []⟩
theorem ca_loop (w : World) {c : List V} {e : TypeId} {sp : Bool} {o : Nat} {cap : Option Nat} {l : List Sp} (R : Row2 c o l) (hl : l.length ≤ 1000000) : ∀ (d k : Nat), k + d = l.length →
    (anyL (l.drop k) = 0 → LTri (En 7) w 7 true (rnd Tryz.f16 0) (yS c e sp o l.length cap k) (.exit 0) (yE c e sp 0)) ∧
    (anyL (l.drop k) = 14 → LTri (En 7) w 7 true (rnd Tryz.f16 0) (yS c e sp o l.length cap k) .ret (yE c e sp 14)) := by
  intro d
  induction d with
  | zero =>
    intro k hk
    rw [List.drop_eq_nil_of_le (by omega)]
    refine ⟨fun _ => ?_, fun h => (by cases h)⟩
    exact LTri.leave (fun h => by cases h) (Tri.of_pass (S := [(10, .eq (boo false))]) (kA [2]) mixedP nocall_ok [boo (decide ((k : Int) < (l.length : Int))) = boo false, SameO (kA []).ρ (.cells c e sp)] (by kernel_rfl) ⟨dec_f (by omega), sameO R.flat⟩)
  | succ d ih =>
    intro k hk
    have hlt : k < l.length := by omega
    have hd : l.drop k = l[k] :: l.drop (k + 1) := List.drop_eq_getElem_cons hlt
    obtain ⟨i1, i2⟩ := ih (k + 1) (by omega)
    rw [hd]
    rcases spanE_cases l[k] with h0 | h0
    · have : anyL (l[k] :: l.drop (k + 1)) = anyL (l.drop (k + 1)) := by simp only [anyL]; rw [if_pos h0]
      rw [this]
      have pass : Tri (En 7) w 7 true (rnd Tryz.f16 0) (yS c e sp o l.length cap k) .norm (yS c e sp o l.length cap (k + 1)) :=
        Tri.of_pass (S := [(10, .eq (boo true)), (15, .ix k), (16, .ld (.agg [int l[k].1, int l[k].2])), (17, .cv (int 0)), (12, .eq (int (k + 1 : Nat)))]) (kA [0, 2, 3]) mixedP nocall_ok
          [boo (decide ((k : Int) < (l.length : Int))) = boo true, (k : Int) = (k : Int), k < l.length, (c.drop (o + k * 2)).take 2 = [int l[k].1, int l[k].2], CvOK (En 7) w 21 [.agg [int l[k].1, int l[k].2]] [] (int 0), int (IntKind.i64.wrap ((k : Int) + 1)) = int (k + 1 : Nat), SameO (kA []).ρ (.cells c e sp)] (by kernel_rfl)
          ⟨dec_t (by omega), rfl, hlt, R.at_ hlt, RefCheckSpan_cv (by omega) h0, hwr (by omega), sameO R.flat⟩
      exact ⟨fun h => LTri.pass pass (i1 h), fun h => LTri.pass pass (i2 h)⟩
    · have : anyL (l[k] :: l.drop (k + 1)) = 14 := by simp only [anyL]; rw [if_neg (by omega)]
      rw [this]
      refine ⟨fun h => (by cases h), fun _ => ?_⟩
      exact LTri.leave (fun h => by cases h) (Tri.of_pass (S := [(10, .eq (boo true)), (15, .ix k), (16, .ld (.agg [int l[k].1, int l[k].2])), (17, .cv (int 14))]) (kA [2]) mixedP nocall_ok
        [boo (decide ((k : Int) < (l.length : Int))) = boo true, (k : Int) = (k : Int), k < l.length, (c.drop (o + k * 2)).take 2 = [int l[k].1, int l[k].2], CvOK (En 7) w 21 [.agg [int l[k].1, int l[k].2]] [] (int 14), SameO (kA []).ρ (.cells c e sp)] (by kernel_rfl)
        ⟨dec_t (by omega), rfl, hlt, R.at_ hlt, RefCheckSpan_cv (by omega) h0, sameO R.flat⟩)
theorem blk16 : blk Tryz.f16 0 = .block 0 (.loop (rnd Tryz.f16 0)) := by kernel_rfl
theorem CheckAny_cv {r : Nat} (hr : 6 ≤ r) {w0 : World} {v : V} {objs : List (Nat × O)} {l : List Sp} (hv : ∀ h, HasAll h objs → Arg2 h v objs l) (hl : l.length ≤ 1000000) {x : Int} (hx : anyE l = x) : CvOK (En r) w0 16 [v] objs (int x) := by
  intro h hh
  subst hx
  cases hv h hh with
  | nil =>
    refine pure0 rfl noId_sc (fun w => ?_) hr
    exact FnOK.of_sfunv mixedP noGo Tryz.func16 [] [] (by kernel_rfl) trivial
  | @sl b o cap c e sp _ R hb =>
    refine pure1 (args0 := [.sl 6 o l.length 2 cap]) noId_sc (flatO R.flat) (fun w => ?_) hr hb (by simp [rvals, rval, rcell, rleaf])
    by_cases hm : 1024 < l.length
    · rw [show anyE l = 5 from if_pos hm]
      exact FnOK.of_sfunv mixedP noGo Tryz.func16 [(6, .eq (boo true))] [boo (decide ((1024 : Int) < (l.length : Int))) = boo true] (by kernel_rfl) (dec_t (by omega))
    · rw [show anyE l = anyL l from if_neg hm]
      obtain ⟨i1, i2⟩ := ca_loop w (e := e) (sp := sp) (cap := cap) R hl l.length 0 (by omega)
      rw [List.drop_zero] at i1 i2
      rcases anyL_cases l with h0 | h0
      · rw [h0]
        exact FnOK.of_sfunv mixedP noGo Tryz.func16 [(6, .eq (boo false)), (400000, .code (kA [0, 2, 3]) .norm (yE c e sp 0))] [boo (decide ((1024 : Int) < (l.length : Int))) = boo false, SameO (kA []).ρ (.cells c e sp), Tri (En 7) w 7 true (blk Tryz.f16 0) (yS c e sp o l.length cap 0) .norm (yE c e sp 0)] (by kernel_rfl) ⟨dec_f (by omega), sameO R.flat, Tri.rnd blk16 (i1 h0)⟩
      · rw [h0]
        exact FnOK.of_sfunv mixedP noGo Tryz.func16 [(6, .eq (boo false)), (400000, .code (kA [0, 2, 3]) .ret (yE c e sp 14))] [boo (decide ((1024 : Int) < (l.length : Int))) = boo false, SameO (kA []).ρ (.cells c e sp), Tri (En 7) w 7 true (blk Tryz.f16 0) (yS c e sp o l.length cap 0) .ret (yE c e sp 14)] (by kernel_rfl) ⟨dec_f (by omega), sameO R.flat, Tri.rnd blk16 (i2 h0)⟩

/-! ### Totals -/
def totS : List Sp → Int
  | [] => 0
  | s :: r => s.2 - s.1 + totS r
theorem totS_app (l m : List Sp) : totS (l ++ m) = totS l + totS m := by
  induction l with
  | nil => simp [totS]
  | cons s r ih => simp only [List.cons_append, totS, ih]; omega
theorem tot_step {l : List Sp} {k : Nat} (hk : k < l.length) : totS (l.take (k + 1)) = totS (l.take k) + (l[k].2 - l[k].1) := by
  rw [List.take_succ_eq_append_getElem hk, totS_app]; simp [totS]
theorem spansE_valid {last : Int} {l : List Sp} (h : spansE last l = 0) : ∀ s ∈ l, spanE s = 0 := by
  induction l generalizing last with
  | nil => intro s hs; cases hs
  | cons x r ih =>
    simp only [spansE] at h
    split at h
    · rename_i h0
      split at h
      · cases h
      · intro s hs
        rcases List.mem_cons.1 hs with rfl | hs
        · exact h0
        · exact ih h s hs
    · cases h
theorem tot_bd {l : List Sp} (hv : ∀ s ∈ l, spanE s = 0) : ∀ k, k ≤ l.length → 0 ≤ totS (l.take k) ∧ totS (l.take k) ≤ 40000 * k := by
  intro k
  induction k with
  | zero => intro _; simp [totS]
  | succ k ih =>
    intro hk
    obtain ⟨h1, h2⟩ := ih (by omega)
    rw [tot_step (by omega)]
    have := spanE_zero (hv l[k] (List.getElem_mem _))
    omega
noncomputable abbrev tS (c : List V) (e : TypeId) (sp : Bool) (o n : Nat) (cap : Option Nat) (t : Int) (k : Nat) : St := ⟨frm 28 [(2, int 0), (3, int 0), (5, int t), (13, .sl 6 o n 2 cap), (14, int n), (15, int k)], 28, hA c e sp, []⟩
noncomputable abbrev tE (c : List V) (e : TypeId) (sp : Bool) (t : Int) : St := ⟨frm 28 [(2, int 0), (3, int 0), (5, int t)], 28, hA c e sp, []⟩
theorem tot_loop (w : World) {c : List V} {e : TypeId} {sp : Bool} {o : Nat} {cap : Option Nat} {l : List Sp} (R : Row2 c o l) (hl : l.length ≤ 1000000) (hv : ∀ s ∈ l, spanE s = 0) : ∀ (d k : Nat), k + d = l.length →
    LTri (En 7) w 7 true (rnd Tryz.f15 0) (tS c e sp o l.length cap (totS (l.take k)) k) (.exit 0) (tE c e sp (totS l)) := by
  intro d
  induction d with
  | zero =>
    intro k hk
    rw [List.take_of_length_le (by omega)]
    exact LTri.leave (fun h => by cases h) (Tri.of_pass (S := [(16, .eq (boo false))]) (kA [2, 3, 5]) mixedP nocall_ok [boo (decide ((k : Int) < (l.length : Int))) = boo false, SameO (kA []).ρ (.cells c e sp)] (by kernel_rfl) ⟨dec_f (by omega), sameO R.flat⟩)
  | succ d ih =>
    intro k hk
    have hlt : k < l.length := by omega
    have hb := tot_bd hv k (by omega)
    have hs := spanE_zero (hv l[k] (List.getElem_mem _))
    have i1 := ih (k + 1) (by omega)
    rw [tot_step hlt] at i1
    refine LTri.pass ?_ i1
    exact Tri.of_pass (S := [(16, .eq (boo true)), (17, .ix k), (18, .ld (.agg [int l[k].1, int l[k].2])), (24, .eq (int (l[k].2 - l[k].1))), (25, .eq (int (totS (l.take k) + (l[k].2 - l[k].1)))), (26, .eq (int (k + 1 : Nat)))]) (kA [2, 3, 5, 13, 14, 15]) mixedP nocall_ok
      [boo (decide ((k : Int) < (l.length : Int))) = boo true, (k : Int) = (k : Int), k < l.length, (c.drop (o + k * 2)).take 2 = [int l[k].1, int l[k].2], int (IntKind.i64.wrap (l[k].2 - l[k].1)) = int (l[k].2 - l[k].1), int (IntKind.i64.wrap (totS (l.take k) + (l[k].2 - l[k].1))) = int (totS (l.take k) + (l[k].2 - l[k].1)), int (IntKind.i64.wrap ((k : Int) + 1)) = int (k + 1 : Nat), SameO (kA []).ρ (.cells c e sp)] (by kernel_rfl)
      ⟨dec_t (by omega), rfl, hlt, R.at_ hlt, int_eq (wrap_id (by omega) (by omega)), int_eq (wrap_id (by omega) (by omega)), hwr (by omega), sameO R.flat⟩
theorem blk15 : blk Tryz.f15 0 = .block 0 (.loop (rnd Tryz.f15 0)) := by kernel_rfl
theorem Total_cv {r : Nat} (hr : 6 ≤ r) {w0 : World} {v : V} {objs : List (Nat × O)} {l : List Sp} (hv : ∀ h, HasAll h objs → Arg2 h v objs l) (hl : l.length ≤ 1000000) {x : Int} (hx : checkE l = x) : CvOK (En r) w0 15 [v] objs (.tup [int (if x = 0 then totS l else 0), int x]) := by
  intro h hh
  subst hx
  cases hv h hh with
  | nil =>
    refine pure0 rfl (noId_of rfl) (fun w => ?_) hr
    exact FnOK.of_sfunv mixedP noGo Tryz.func15 [(9, .cv (int 0))] [CvOK (En 6) w 22 [.sc (.slice none 0 0)] [] (int 0)] (by kernel_rfl) (CheckSpans_cv (l := []) (Nat.le_refl _) (fun h _ => .nil) (by simp) rfl)
  | @sl b o cap c e sp _ R hb =>
    refine pure1 (args0 := [.sl 6 o l.length 2 cap]) (noId_of rfl) (flatO R.flat) (fun w => ?_) hr hb (by simp [rvals, rval, rcell, rleaf])
    have hcs : CvOK (En 7) w 22 [.sl 6 o l.length 2 cap] [(6, .cells c e sp)] (int (checkE l)) := CheckSpans_cv (by omega) (fun h hh => .sl R hh.1) hl rfl
    by_cases h0 : checkE l = 0
    · rw [if_pos h0, h0]
      rw [h0] at hcs
      have hm : ¬ 1024 < l.length := fun h => by unfold checkE at h0; rw [if_pos h] at h0; cases h0
      have hs0 : spansE (-1) l = 0 := by unfold checkE at h0; rw [if_neg hm] at h0; exact h0
      exact FnOK.of_sfunv mixedP noGo Tryz.func15 [(9, .cv (int 0)), (400000, .code (kA [2, 3, 5, 13, 14, 15]) .norm (tE c e sp (totS l)))] [CvOK (En 7) w 22 [.sl 6 o l.length 2 cap] [(6, .cells c e sp)] (int 0), SameO (kA []).ρ (.cells c e sp), Tri (En 7) w 7 true (blk Tryz.f15 0) (tS c e sp o l.length cap 0 0) .norm (tE c e sp (totS l))] (by kernel_rfl)
        ⟨hcs, sameO R.flat, Tri.rnd blk15 (tot_loop w R hl (spansE_valid hs0) l.length 0 (by omega))⟩
    · rw [if_neg h0]
      exact FnOK.of_sfunv mixedP noGo Tryz.func15 [(9, .cv (int (checkE l))), (11, .eq (boo true))] [CvOK (En 7) w 22 [.sl 6 o l.length 2 cap] [(6, .cells c e sp)] (int (checkE l)), boo (checkE l != 0) = boo true] (by kernel_rfl) ⟨hcs, boo_eq (by simp [h0])⟩

noncomputable abbrev uS (c : List V) (e : TypeId) (sp : Bool) (o n : Nat) (cap : Option Nat) (t : Int) (k : Nat) : St := ⟨frm 25 [(0, .sl 6 o n 2 cap), (2, int 0), (3, int t), (4, int k)], 25, hA c e sp, []⟩
noncomputable abbrev uE (c : List V) (e : TypeId) (sp : Bool) (t : Int) : St := ⟨frm 25 [(2, int 0), (3, int t)], 25, hA c e sp, []⟩
theorem rtot_loop (w : World) {c : List V} {e : TypeId} {sp : Bool} {o : Nat} {cap : Option Nat} {l : List Sp} (R : Row2 c o l) (hl : l.length ≤ 1000000) (hv : ∀ s ∈ l, spanE s = 0) : ∀ (d k : Nat), k + d = l.length →
    LTri (En 7) w 7 true (rnd Tryz.f19 0) (uS c e sp o l.length cap (totS (l.take k)) k) (.exit 0) (uE c e sp (totS l)) := by
  intro d
  induction d with
  | zero =>
    intro k hk
    rw [List.take_of_length_le (by omega)]
    exact LTri.leave (fun h => by cases h) (Tri.of_pass (S := [(8, .eq (boo false))]) (kA [2, 3]) mixedP nocall_ok [boo (decide ((k : Int) < (l.length : Int))) = boo false, SameO (kA []).ρ (.cells c e sp)] (by kernel_rfl) ⟨dec_f (by omega), sameO R.flat⟩)
  | succ d ih =>
    intro k hk
    have hlt : k < l.length := by omega
    have hb := tot_bd hv k (by omega)
    have hs := spanE_zero (hv l[k] (List.getElem_mem _))
    have i1 := ih (k + 1) (by omega)
    rw [tot_step hlt, show totS (l.take k) + (l[k].2 - l[k].1) = totS (l.take k) + l[k].2 - l[k].1 by omega] at i1
    refine LTri.pass ?_ i1
    exact Tri.of_pass (S := [(8, .eq (boo true)), (14, .ix k), (16, .ld (int l[k].2)), (17, .eq (int (totS (l.take k) + l[k].2))), (20, .ix k), (22, .ld (int l[k].1)), (23, .eq (int (totS (l.take k) + l[k].2 - l[k].1))), (10, .eq (int (k + 1 : Nat)))]) (kA [0, 2, 3, 4]) mixedP nocall_ok
      [boo (decide ((k : Int) < (l.length : Int))) = boo true, (k : Int) = (k : Int), k < l.length, c[o + k * 2 + 1]? = some (int l[k].2), int (IntKind.i64.wrap (totS (l.take k) + l[k].2)) = int (totS (l.take k) + l[k].2), (k : Int) = (k : Int), k < l.length, c[o + k * 2 + 0]? = some (int l[k].1),
        int (IntKind.i64.wrap (totS (l.take k) + l[k].2 - l[k].1)) = int (totS (l.take k) + l[k].2 - l[k].1), int (IntKind.i64.wrap ((k : Int) + 1)) = int (k + 1 : Nat), SameO (kA []).ρ (.cells c e sp)] (by kernel_rfl)
      ⟨dec_t (by omega), rfl, hlt, R.at1 hlt, int_eq (wrap_id (by omega) (by omega)), rfl, hlt, R.at0 hlt, int_eq (wrap_id (by omega) (by omega)), hwr (by omega), sameO R.flat⟩
theorem blk19 : blk Tryz.f19 0 = .block 0 (.loop (rnd Tryz.f19 0)) := by kernel_rfl
theorem RefTotal_cv {r : Nat} (hr : 6 ≤ r) {w0 : World} {v : V} {objs : List (Nat × O)} {l : List Sp} (hv : ∀ h, HasAll h objs → Arg2 h v objs l) (hl : l.length ≤ 1000000) (hval : ∀ s ∈ l, spanE s = 0) : CvOK (En r) w0 19 [v] objs (int (totS l)) := by
  intro h hh
  cases hv h hh with
  | nil =>
    refine pure0 rfl noId_sc (fun w => ?_) hr
    exact FnOK.of_sfunv mixedP noGo Tryz.func19 [] [] (by kernel_rfl) trivial
  | @sl b o cap c e sp _ R hb =>
    refine pure1 (args0 := [.sl 6 o l.length 2 cap]) noId_sc (flatO R.flat) (fun w => ?_) hr hb (by simp [rvals, rval, rcell, rleaf])
    exact FnOK.of_sfunv mixedP noGo Tryz.func19 [(400000, .code (kA [0, 2, 3, 4]) .norm (uE c e sp (totS l)))] [SameO (kA []).ρ (.cells c e sp), Tri (En 7) w 7 true (blk Tryz.f19 0) (uS c e sp o l.length cap 0 0) .norm (uE c e sp (totS l))] (by kernel_rfl)
      ⟨sameO R.flat, Tri.rnd blk19 (rtot_loop w R hl hval l.length 0 (by omega))⟩
/-! ### nacelleref01.ShortSpans -/
def shortB (l : List Sp) : Bool := decide (l.length ≤ 12) || (l.length == 1025)
theorem ShortSpans_cv {r : Nat} (hr : 6 ≤ r) {w0 : World} {v : V} {objs : List (Nat × O)} {l : List Sp} (hv : ∀ h, HasAll h objs → Arg2 h v objs l) {b : Bool} (hb : shortB l = b) : CvOK (En r) w0 12 [v, int 12] objs (boo b) := by
  intro h hh
  subst hb
  cases hv h hh with
  | nil =>
    refine pure0 rfl noId_sc (fun w => ?_) hr
    exact FnOK.of_sfunv mixedP noGo Tryz.func12 [] [] (by kernel_rfl) trivial
  | @sl b o cap c e sp _ R hb =>
    refine pure1 (args0 := [.sl 6 o l.length 2 cap, int 12]) noId_sc (flatO R.flat) (fun w => ?_) hr hb (by simp [rvals, rval, rcell, rleaf])
    by_cases h1 : l.length ≤ 12
    · rw [show shortB l = true by unfold shortB; rw [decide_eq_true h1]; rfl]
      exact FnOK.of_sfunv mixedP noGo Tryz.func12 [(8, .eq (boo true)), (12, .eq (boo true))] [boo (decide ((l.length : Int) ≤ 12)) = boo true] (by kernel_rfl) (dec_t (by omega))
    · rw [show shortB l = (l.length == 1025) by unfold shortB; rw [decide_eq_false h1]; rfl]
      exact FnOK.of_sfunv mixedP noGo Tryz.func12 [(8, .eq (boo false)), (12, .eq (boo (l.length == 1025)))] [boo (decide ((l.length : Int) ≤ 12)) = boo false, boo ((l.length : Int) == 1025) = boo (l.length == 1025)] (by kernel_rfl) ⟨dec_f (by omega), boo_eq (by
        by_cases h2 : l.length = 1025
        · rw [h2]; rfl
        · rw [beq_eq_false_iff_ne.2 h2, beq_eq_false_iff_ne.2 (by omega)])⟩

/-! ### nacellelaw01.spans: a copy -/
def cpCap (l : List Sp) : Option Nat := if l = [] then some 0 else none
def cpSp (l : List Sp) : Bool := if l = [] then false else true
theorem Row2.all {c : List V} {o : Nat} {l : List Sp} (R : Row2 c o l) : (c.drop o).take (l.length * 2) = encS l := R.cut
theorem spans_cn {r : Nat} (hr : 6 ≤ r) {w0 : World} {v : V} {objs : List (Nat × O)} {l : List Sp} (hv : ∀ h, HasAll h objs → Arg2 h v objs l) (hl : l.length ≤ 1000000) : CnOK (En r) w0 14 [v] objs l.length 2 (cpCap l) (encS l) 23 (cpSp l) := by
  intro h hh
  cases hv h hh with
  | nil =>
    refine new0 (i1 := 6) (c1 := []) (e1 := 23) (sp1 := false) (n := 0) (es := 2) (cap := some 0) (Nat.le_refl _) (.inr rfl) (flatO (fun v hv => by cases hv)) rfl (fun w => ?_) hr
    exact FnOK.of_sfunb mixedP noGo Tryz.func14 [] [] (by kernel_rfl) trivial
  | @sl b o cap c e sp _ R hb =>
    cases l with
    | nil =>
      refine new1 (i1 := 7) (args0 := [.sl 6 o 0 2 cap]) (c1 := []) (e1 := 23) (sp1 := false) (n := 0) (es := 2) (cap := some 0) (Nat.le_refl _) (.inr rfl) (flatO R.flat) (flatO (fun v hv => by cases hv)) (fun w => ?_) hr hb (by simp [rvals, rval, rcell, rleaf])
      exact FnOK.of_sfunb mixedP noGo Tryz.func14 [] [] (by kernel_rfl) trivial
    | cons s l =>
      refine new1 (i1 := 8) (args0 := [.sl 6 o (l.length + 1) 2 cap]) (c1 := encS (s :: l)) (e1 := 23) (sp1 := true) (n := l.length + 1) (es := 2) (cap := none) (by omega) (.inl (by omega)) (flatO R.flat) (flatO (encS_flat _)) (fun w => ?_) hr hb (by simp [rvals, rval, rcell, rleaf])
      exact FnOK.of_sfunb mixedP noGo Tryz.func14 [(5, .al (encS (s :: l)) (l.length + 1))] [l.length + 1 = l.length + 1, l.length + 1 ≤ 1048576, o + (l.length + 1) * 2 ≤ c.length, (c.drop o).take ((l.length + 1) * 2) = encS (s :: l)] (by kernel_rfl)
        ⟨rfl, by simp only [List.length_cons] at hl; omega, by have := R.len (by simp); simpa using this, R.cut⟩

/-! ### nacelleref01.SameSpans -/
abbrev kB (keep : List Nat) : Wk := ⟨8, [(6, 6, true), (7, 7, true)], keep, [], 8⟩
noncomputable abbrev hB (c : List V) (e : TypeId) (sp : Bool) (d : List V) (e2 : TypeId) (sp2 : Bool) : Hp := ⟨8, mkH [(6, .cells c e sp), (7, .cells d e2 sp2)]⟩
theorem und23 : Tryz.prog.underlying 23 = some (.struct (Tryz.prog.fieldsOf 23)) := by kernel_rfl
theorem held23 : Tryz.prog.stoodInHeld 23 = false := by kernel_rfl
theorem grd23 : Tryz.prog.eqGuardType Tryz.prog.depth 23 = false := by kernel_rfl
theorem und3s : Tryz.prog.underlying 3 = some (.int .i64) := by kernel_rfl
theorem fld23 : (Tryz.prog.fieldsOf 23).toList.map (fun f => (f.name == "_", f.type, f.offset)) = [(false, 3, 0), (false, 3, 1)] := by kernel_rfl
theorem fields23 : ∃ f g : Field, (Tryz.prog.fieldsOf 23).toList = [f, g] ∧ (f.name ≠ "_" ∧ f.type = 3 ∧ f.offset = 0) ∧ g.name ≠ "_" ∧ g.type = 3 ∧ g.offset = 1 := by
  have h := fld23
  revert h
  generalize (Tryz.prog.fieldsOf 23).toList = fs
  intro h
  match fs, h with
  | [f, g], h =>
    simp only [List.map_cons, List.map_nil, List.cons.injEq, Prod.mk.injEq, beq_eq_false_iff_ne, and_true] at h
    exact ⟨f, g, rfl, h.1, h.2⟩
  | [], h => simp at h
  | [_], h => simp at h
  | _ :: _ :: _ :: _, h => simp at h
theorem part3 (w : World) (zs : Array Value) (i : Nat) (v : Value) (h : zs[i]? = some v) : (part 3 zs i).run Tryz.prog w = .ok v w := by
  simp only [part, Sem.run_bind, run_isAggD und3s, Result.andThen_ok, isAggD, Bool.false_eq_true, if_false, h]
  rfl
theorem sp_neq {k : Nat} (x y : Operand) (a b : Sp) {c : Bool} (h : decide (a ≠ b) = c) : BinIs (En k) .neq 23 x y (.agg ⟨[.int .i64 a.1, .int .i64 a.2]⟩) (.agg ⟨[.int .i64 b.1, .int .i64 b.2]⟩) c := by
  intro w
  subst h
  show (do eqGuard .neq 23 x y (.agg ⟨[.int .i64 a.1, .int .i64 a.2]⟩) (.agg ⟨[.int .i64 b.1, .int .i64 b.2]⟩); binOp .neq 23 (.agg ⟨[.int .i64 a.1, .int .i64 a.2]⟩) (.agg ⟨[.int .i64 b.1, .int .i64 b.2]⟩) : Sem Value).run Tryz.prog w = _
  rw [Sem.run_bind, run_eqGuard_agg w .neq 23 x y _ _ grd23, Result.andThen_ok, run_neq_struct]
  obtain ⟨d, hd⟩ : ∃ d, (10000 : Nat) = d + 2 := ⟨9998, by omega⟩
  obtain ⟨f, g, hfs, ⟨f1, f2, f3⟩, g1, g2, g3⟩ := fields23
  rw [hd, run_equalIn_agg w (d + 1) 23 _ _ und23 held23, hfs]
  have step : ∀ (f : Field) (fs : List Field) (xs ys : Array Value) (i : Nat) (p q : Int), f.name ≠ "_" → f.type = 3 → f.offset = i → xs[i]? = some (.int .i64 p) → ys[i]? = some (.int .i64 q) →
      (Op.eqFields (d + 1) xs ys (f :: fs)).run Tryz.prog w = if p == q then (Op.eqFields (d + 1) xs ys fs).run Tryz.prog w else .ok false w := by
    intro f fs xs ys i p q q1 q2 q3 q4 q5
    subst q3
    simp only [Op.eqFields, if_pos q1, q2, Sem.run_bind, part3 w xs _ _ q4, part3 w ys _ _ q5, Result.andThen_ok, run_equalIn_int w d 3 .i64 .i64 p q und3s]
    cases p == q <;> simp
  rw [step f [g] _ _ 0 a.1 b.1 f1 f2 f3 rfl rfl, step g [] _ _ 1 a.2 b.2 g1 g2 g3 rfl rfl]
  obtain ⟨a1, a2⟩ := a
  obtain ⟨b1, b2⟩ := b
  by_cases h1 : a1 = b1
  · by_cases h2 : a2 = b2
    · simp [h1, h2, Op.eqFields]
    · simp [h1, h2]
  · simp [h1]

noncomputable abbrev mS (c : List V) (e : TypeId) (sp : Bool) (d : List V) (e2 : TypeId) (sp2 : Bool) (o p n : Nat) (cap cap2 : Option Nat) (k : Nat) : St := ⟨frm 26 [(0, .sl 6 o n 2 cap), (1, .sl 7 p n 2 cap2), (4, boo false), (5, int k)], 26, hB c e sp d e2 sp2, []⟩
noncomputable abbrev mE (c : List V) (e : TypeId) (sp : Bool) (d : List V) (e2 : TypeId) (sp2 : Bool) : St := ⟨frm 26 [], 26, hB c e sp d e2 sp2, []⟩
theorem ss_loop (w : World) {c d : List V} {e e2 : TypeId} {sp sp2 : Bool} {o p : Nat} {cap cap2 : Option Nat} {l : List Sp} (R : Row2 c o l) (R2 : Row2 d p l) (hl : l.length ≤ 1000000) : ∀ (m k : Nat), k + m = l.length →
    LTri (En 8) w 8 true (rnd Tryz.f33 0) (mS c e sp d e2 sp2 o p l.length cap cap2 k) (.exit 0) (mE c e sp d e2 sp2) := by
  intro m
  induction m with
  | zero =>
    intro k hk
    exact LTri.leave (fun h => by cases h) (Tri.of_pass (S := [(14, .eq (boo false))]) (kB []) mixedP nocall_ok [boo (decide ((k : Int) < (l.length : Int))) = boo false, SameO (kB []).ρ (.cells c e sp), SameO (kB []).ρ (.cells d e2 sp2)] (by kernel_rfl) ⟨dec_f (by omega), sameO R.flat, sameO R2.flat⟩)
  | succ m ih =>
    intro k hk
    have hlt : k < l.length := by omega
    refine LTri.pass ?_ (ih (k + 1) (by omega))
    exact Tri.of_pass (S := [(14, .eq (boo true)), (19, .ix k), (20, .ld (.agg [int l[k].1, int l[k].2])), (23, .ix k), (24, .ld (.agg [int l[k].1, int l[k].2])), (25, .bin false), (16, .eq (int (k + 1 : Nat)))]) (kB [0, 1, 4, 5]) mixedP nocall_ok
      [boo (decide ((k : Int) < (l.length : Int))) = boo true, (k : Int) = (k : Int), k < l.length, (c.drop (o + k * 2)).take 2 = [int l[k].1, int l[k].2], (k : Int) = (k : Int), k < l.length, (d.drop (p + k * 2)).take 2 = [int l[k].1, int l[k].2],
        BinIs (En 8) .neq 23 (.tmp 20) (.tmp 24) (.agg ⟨[.int .i64 l[k].1, .int .i64 l[k].2]⟩) (.agg ⟨[.int .i64 l[k].1, .int .i64 l[k].2]⟩) false, int (IntKind.i64.wrap ((k : Int) + 1)) = int (k + 1 : Nat), SameO (kB []).ρ (.cells c e sp), SameO (kB []).ρ (.cells d e2 sp2)] (by kernel_rfl)
      ⟨dec_t (by omega), rfl, hlt, R.at_ hlt, rfl, hlt, R2.at_ hlt, sp_neq _ _ _ _ (decide_eq_false (fun h => h rfl)), hwr (by omega), sameO R.flat, sameO R2.flat⟩
theorem blk33 : blk Tryz.f33 0 = .block 0 (.loop (rnd Tryz.f33 0)) := by kernel_rfl
theorem two_args {b b2 : Nat} (h : b ≠ b2) {o p n es : Nat} {cap cap2 : Option Nat} : rvals (fun i => bif Nat.beq i b then some 6 else bif Nat.beq i b2 then some (6 + 1) else none) [.sl b o n es cap, .sl b2 p n es cap2] = [.sl 6 o n es cap, .sl 7 p n es cap2] := by
  have h1 : Nat.beq b2 b = false := by
    cases hq : Nat.beq b2 b with
    | false => rfl
    | true => exact absurd (beq_iff.1 hq).symm h
  simp [rvals, rval, rcell, rleaf, h1]
/-- Two slices of the same spans. -/
theorem SameSpans_cv {r : Nat} (hr : 6 ≤ r) {w0 : World} {v u : V} {o1 o2 : List (Nat × O)} {l : List Sp} (hv : ∀ h, HasAll h o1 → Arg2 h v o1 l) (hu : ∀ h, HasAll h o2 → Arg2 h u o2 l) (hd : ∀ x ∈ o1, ∀ y ∈ o2, x.1 ≠ y.1) (hl : l.length ≤ 1000000) : CvOK (En r) w0 33 [v, u] (o1 ++ o2) (boo true) := by
  intro h hh
  have both : ∀ (o1 o2 : List (Nat × O)), HasAll h (o1 ++ o2) → HasAll h o1 ∧ HasAll h o2 := fun o1 => by
    induction o1 with
    | nil => intro o2 hh; exact ⟨trivial, hh⟩
    | cons x r ih => intro o2 hh; obtain ⟨a, b⟩ := ih o2 hh.2; exact ⟨⟨hh.1, a⟩, b⟩
  obtain ⟨k1, k2⟩ := both o1 o2 hh
  have A := hv h k1
  have B := hu h k2
  cases A with
  | nil =>
    cases B with
    | nil =>
      refine pure0 rfl noId_sc (fun w => ?_) hr
      exact FnOK.of_sfunv mixedP noGo Tryz.func33 [] [] (by kernel_rfl) trivial
    | @sl b o cap c e sp _ R hb =>
      refine pure1 (args0 := [.sc (.slice none 0 0), .sl 6 o 0 2 cap]) noId_sc (flatO R.flat) (fun w => ?_) hr hb (by simp [rvals, rval, rcell, rleaf])
      exact FnOK.of_sfunv mixedP noGo Tryz.func33 [] [] (by kernel_rfl) trivial
  | @sl b o cap c e sp _ R hb =>
    generalize hq : l = m at R B
    cases B with
    | nil =>
      subst hq
      refine pure1 (args0 := [.sl 6 o 0 2 cap, .sc (.slice none 0 0)]) noId_sc (flatO R.flat) (fun w => ?_) hr hb (by simp [rvals, rval, rcell, rleaf])
      exact FnOK.of_sfunv mixedP noGo Tryz.func33 [] [] (by kernel_rfl) trivial
    | @sl b2 p cap2 c2 e2 sp2 _ R2 hb2 =>
      subst hq
      have hbb : b ≠ b2 := hd _ (List.mem_singleton.2 rfl) _ (List.mem_singleton.2 rfl)
      refine pure2 (args0 := [.sl 6 o l.length 2 cap, .sl 7 p l.length 2 cap2]) noId_sc (flatO R.flat) (flatO R2.flat) (fun w => ?_) hr hb hb2 (two_args hbb)
      exact FnOK.of_sfunv mixedP noGo Tryz.func33 [(10, .eq (boo false)), (400000, .code (kB [0, 1, 4, 5]) .norm (mE c e sp c2 e2 sp2))]
          [boo ((l.length : Int) != (l.length : Int)) = boo false, SameO (kB []).ρ (.cells c e sp), SameO (kB []).ρ (.cells c2 e2 sp2), Tri (En 8) w 8 true (blk Tryz.f33 0) (mS c e sp c2 e2 sp2 o p l.length cap cap2 0) .norm (mE c e sp c2 e2 sp2)] (by kernel_rfl)
          ⟨boo_eq (by simp), sameO R.flat, sameO R2.flat, Tri.rnd blk33 (ss_loop w R R2 hl l.length 0 (by omega))⟩

/-! ### nacelleref01.HasInt -/
theorem intc {c : List V} (l : List Int) (h : c = l.map int) : FlatC c := fun v hv => by
  subst h
  obtain ⟨x, _, rfl⟩ := List.mem_map.1 hv
  exact .inr ⟨_, rfl⟩
noncomputable abbrev qS (l : List Int) (e : TypeId) (sp : Bool) (cap : Option Nat) (x : Int) (k : Nat) : St := ⟨frm 18 [(0, .sl 6 0 l.length 1 cap), (1, int x), (4, boo false), (5, int k)], 18, hA (l.map int) e sp, []⟩
noncomputable abbrev qE (l : List Int) (e : TypeId) (sp : Bool) (b : Bool) : St := ⟨frm 18 [(4, boo b)], 18, hA (l.map int) e sp, []⟩
theorem hi_loop (w : World) (l : List Int) (e : TypeId) (sp : Bool) (cap : Option Nat) (x : Int) (hl : l.length ≤ 1000000) : ∀ (d k : Nat), k + d = l.length →
    ((l.drop k).contains x = false → LTri (En 7) w 7 true (rnd Tryz.f114 0) (qS l e sp cap x k) (.exit 0) (qE l e sp false)) ∧
    ((l.drop k).contains x = true → LTri (En 7) w 7 true (rnd Tryz.f114 0) (qS l e sp cap x k) .ret (qE l e sp true)) := by
  intro d
  induction d with
  | zero =>
    intro k hk
    rw [List.drop_eq_nil_of_le (by omega)]
    refine ⟨fun _ => ?_, fun h => (by cases h)⟩
    exact LTri.leave (fun h => by cases h) (Tri.of_pass (S := [(9, .eq (boo false))]) (kA [4]) mixedP nocall_ok [boo (decide ((k : Int) < (l.length : Int))) = boo false, SameO (kA []).ρ (.cells (l.map int) e sp)] (by kernel_rfl) ⟨dec_f (by omega), sameO (intc l rfl)⟩)
  | succ d ih =>
    intro k hk
    have hlt : k < l.length := by omega
    have hd : l.drop k = l[k] :: l.drop (k + 1) := List.drop_eq_getElem_cons hlt
    obtain ⟨i1, i2⟩ := ih (k + 1) (by omega)
    rw [hd, List.contains_cons]
    cases hb : x == l[k] with
    | false =>
      simp only [Bool.false_or]
      have hb' : (l[k] == x) = false := by rw [Bool.beq_comm]; exact hb
      have pass : Tri (En 7) w 7 true (rnd Tryz.f114 0) (qS l e sp cap x k) .norm (qS l e sp cap x (k + 1)) :=
        Tri.of_pass (S := [(9, .eq (boo true)), (14, .ix k), (15, .ld (int l[k])), (17, .eq (boo false)), (11, .eq (int (k + 1 : Nat)))]) (kA [0, 1, 4, 5]) mixedP nocall_ok
          [boo (decide ((k : Int) < (l.length : Int))) = boo true, (k : Int) = (k : Int), k < l.length, (l.map int)[0 + k * 1]? = some (int l[k]), boo (l[k] == x) = boo false, int (IntKind.i64.wrap ((k : Int) + 1)) = int (k + 1 : Nat), SameO (kA []).ρ (.cells (l.map int) e sp)] (by kernel_rfl)
          ⟨dec_t (by omega), rfl, hlt, ints_get hlt, boo_eq hb', hwr (by omega), sameO (intc l rfl)⟩
      exact ⟨fun h => LTri.pass pass (i1 h), fun h => LTri.pass pass (i2 h)⟩
    | true =>
      have hb' : (l[k] == x) = true := by rw [Bool.beq_comm]; exact hb
      refine ⟨fun h => (by simp at h), fun _ => ?_⟩
      exact LTri.leave (fun h => by cases h) (Tri.of_pass (S := [(9, .eq (boo true)), (14, .ix k), (15, .ld (int l[k])), (17, .eq (boo true))]) (kA [4]) mixedP nocall_ok
        [boo (decide ((k : Int) < (l.length : Int))) = boo true, (k : Int) = (k : Int), k < l.length, (l.map int)[0 + k * 1]? = some (int l[k]), boo (l[k] == x) = boo true, SameO (kA []).ρ (.cells (l.map int) e sp)] (by kernel_rfl)
        ⟨dec_t (by omega), rfl, hlt, ints_get hlt, boo_eq hb', sameO (intc l rfl)⟩)
theorem blk114 : blk Tryz.f114 0 = .block 0 (.loop (rnd Tryz.f114 0)) := by kernel_rfl
theorem HasInt_cv {r : Nat} (hr : 6 ≤ r) {w0 : World} {b : Nat} {l : List Int} {e : TypeId} {sp : Bool} {cap : Option Nat} {x : Int} (hl : l.length ≤ 1000000) {y : Bool} (hy : l.contains x = y) : CvOK (En r) w0 114 [.sl b 0 l.length 1 cap, int x] [(b, .cells (l.map int) e sp)] (boo y) := by
  intro h hh
  subst hy
  refine pure1 (args0 := [.sl 6 0 l.length 1 cap, int x]) noId_sc (flatO (intc l rfl)) (fun w => ?_) hr hh.1 (by simp [rvals, rval, rcell, rleaf])
  obtain ⟨i1, i2⟩ := hi_loop w l e sp cap x hl l.length 0 (by omega)
  rw [List.drop_zero] at i1 i2
  cases hc : l.contains x with
  | false => exact FnOK.of_sfunv mixedP noGo Tryz.func114 [(400000, .code (kA [0, 1, 4, 5]) .norm (qE l e sp false))] [SameO (kA []).ρ (.cells (l.map int) e sp), Tri (En 7) w 7 true (blk Tryz.f114 0) (qS l e sp cap x 0) .norm (qE l e sp false)] (by kernel_rfl) ⟨sameO (intc l rfl), Tri.rnd blk114 (i1 hc)⟩
  | true => exact FnOK.of_sfunv mixedP noGo Tryz.func114 [(400000, .code (kA [0, 1, 4, 5]) .ret (qE l e sp true))] [SameO (kA []).ρ (.cells (l.map int) e sp), Tri (En 7) w 7 true (blk Tryz.f114 0) (qS l e sp cap x 0) .ret (qE l e sp true)] (by kernel_rfl) ⟨sameO (intc l rfl), Tri.rnd blk114 (i2 hc)⟩

/-! ### site.mapped over site.CheckSpan, and the first of it -/
def errs (l : List Sp) : List Int := l.map spanE
noncomputable abbrev hM (c : List V) (e : TypeId) (sp : Bool) (d : List Int) : Hp := ⟨8, mkH [(6, .cells c e sp), (7, .cells (d.map int) 27 true)]⟩
noncomputable abbrev pS (c : List V) (e : TypeId) (sp : Bool) (o n : Nat) (cap : Option Nat) (d : List Int) (k : Nat) : St := ⟨frm 22 [(1, .fn 20 [] []), (4, .sc (.slice none 0 0)), (5, .sl 7 0 (k + 1) 1 none), (8, .sl 6 o n 2 cap), (9, int n), (10, int (k + 1 : Nat))], 22, hM c e sp d, []⟩
noncomputable abbrev pE (c : List V) (e : TypeId) (sp : Bool) (n : Nat) (d : List Int) : St := ⟨frm 22 [(4, .sc (.slice none 0 0)), (5, .sl 7 0 n 1 none)], 22, hM c e sp d, []⟩
noncomputable abbrev p0 (c : List V) (e : TypeId) (sp : Bool) (o n : Nat) (cap : Option Nat) : St := ⟨frm 22 [(1, .fn 20 [] []), (4, .sc (.slice none 0 0)), (5, .sc (.slice none 0 0)), (8, .sl 6 o n 2 cap), (9, int n), (10, int 0)], 22, hA c e sp, []⟩
abbrev kM (keep : List Nat) : Wk := ⟨7, [(6, 6, true), (7, 7, true)], keep, [], 8⟩
abbrev kM1 (keep : List Nat) : Wk := ⟨7, [(6, 6, true), (10, 7, true)], keep, [], 8⟩
abbrev kM0 (keep : List Nat) : Wk := ⟨7, [(6, 6, true), (9, 7, true)], keep, [], 8⟩
theorem mp_loop (w : World) {c : List V} {e : TypeId} {sp : Bool} {o : Nat} {cap : Option Nat} {l : List Sp} (R : Row2 c o l) (hl : l.length ≤ 1000000) : ∀ (d k : Nat), k + 1 + d = l.length →
    LTri (En 7) w 7 true (rnd Tryz.f72 0) (pS c e sp o l.length cap (errs (l.take (k + 1))) k) (.exit 0) (pE c e sp l.length (errs l)) := by
  intro d
  induction d with
  | zero =>
    intro k hk
    have : k + 1 = l.length := by omega
    rw [show l.take (k + 1) = l from List.take_of_length_le (by omega)]
    have h := Tri.of_pass (E := En 7) (w0 := w) (out := true) (c := rnd Tryz.f72 0) (st := pS c e sp o l.length cap (errs l) k) (S := [(11, .eq (boo false))]) (kM [4, 5]) mixedP nocall_ok [boo (decide (((k + 1 : Nat) : Int) < (l.length : Int))) = boo false, SameO (kM []).ρ (.cells c e sp), SameO (kM []).ρ (.cells ((errs l).map int) 27 true)] (s := pE c e sp (k + 1) (errs l)) (q := .exit 0) (by kernel_rfl) ⟨dec_f (by omega), sameO R.flat, sameO (intc _ rfl)⟩
    rw [this] at h
    exact LTri.leave (fun h => by cases h) h
  | succ d ih =>
    intro k hk
    have hlt : k + 1 < l.length := by omega
    refine LTri.pass ?_ (ih (k + 1) (by omega))
    have hd : ((errs (l.take (k + 1))).map int).take ((k + 1) * 1) ++ [int (spanE l[k + 1])] = (errs (l.take (k + 1 + 1))).map int := by
      rw [List.take_of_length_le (by simp [errs]; omega), List.take_succ_eq_append_getElem hlt]
      unfold errs
      rw [List.map_append, List.map_append]
      rfl
    exact Tri.of_pass (S := [(11, .eq (boo true)), (12, .ix (k + 1)), (13, .ld (.agg [int l[k + 1].1, int l[k + 1].2])), (17, .cv (int (spanE l[k + 1]))), (19, .ap ((errs (l.take (k + 1 + 1))).map int)), (20, .eq (int (k + 1 + 1 : Nat)))]) (kM1 [1, 4, 5, 8, 9, 10]) mixedP nocall_ok
      [boo (decide (((k + 1 : Nat) : Int) < (l.length : Int))) = boo true, ((k + 1 : Nat) : Int) = ((k + 1 : Nat) : Int), k + 1 < l.length, (c.drop (o + (k + 1) * 2)).take 2 = [int l[k + 1].1, int l[k + 1].2], CvOK (En 7) w 20 [.agg [int l[k + 1].1, int l[k + 1].2]] [] (int (spanE l[k + 1])),
        k + 1 + 1 ≤ 1048576, (k + 1) * 1 ≤ ((errs (l.take (k + 1))).map int).length, ((errs (l.take (k + 1))).map int).take ((k + 1) * 1) ++ [int (spanE l[k + 1])] = (errs (l.take (k + 1 + 1))).map int, int (IntKind.i64.wrap (((k + 1 : Nat) : Int) + 1)) = int (k + 1 + 1 : Nat),
        SameO (kM1 []).ρ (.cells c e sp), SameO (kM1 []).ρ (.cells ((errs (l.take (k + 1 + 1))).map int) 27 true)] (by kernel_rfl)
      ⟨dec_t (by omega), rfl, hlt, R.at_ hlt, CheckSpan_cv (by omega) rfl, by omega, by simp [errs]; omega, hd, hwr (by omega), sameO R.flat, sameO (intc _ rfl)⟩
theorem blk72 : blk Tryz.f72 0 = .block 0 (.loop (rnd Tryz.f72 0)) := by kernel_rfl
theorem mapped_cn {r : Nat} (hr : 6 ≤ r) {w0 : World} {b o : Nat} {c : List V} {e : TypeId} {sp : Bool} {cap : Option Nat} {l : List Sp} (R : Row2 c o l) (hl : l.length ≤ 1000000) (hne : l ≠ []) : CnOK (En r) w0 72 [.sl b o l.length 2 cap, .fn 20 [] []] [(b, .cells c e sp)] l.length 1 none ((errs l).map int) 27 true := by
  intro h hh
  have h0 : 0 < l.length := List.length_pos_iff.2 hne
  refine new1 (i1 := 7) (args0 := [.sl 6 o l.length 2 cap, .fn 20 [] []]) (by omega) (.inl (by omega)) (flatO R.flat) (flatO (intc _ rfl)) (fun w => ?_) hr hh.1 (by simp [rvals, rval, rcell, rleaf, rleafs])
  have t1 : l.take 1 = [l[0]] := by
    rw [List.take_succ_eq_append_getElem h0]; simp
  have first : Tri (En 7) w 7 true (rnd Tryz.f72 0) (p0 c e sp o l.length cap) .norm (pS c e sp o l.length cap (errs (l.take 1)) 0) := by
    rw [t1]
    exact Tri.of_pass (S := [(11, .eq (boo true)), (12, .ix 0), (13, .ld (.agg [int l[0].1, int l[0].2])), (17, .cv (int (spanE l[0]))), (20, .eq (int 1))]) (kM0 [1, 4, 5, 8, 9, 10]) mixedP nocall_ok
      [boo (decide ((0 : Int) < (l.length : Int))) = boo true, (0 : Int) = ((0 : Nat) : Int), 0 < l.length, (c.drop (o + 0)).take 2 = [int l[0].1, int l[0].2], CvOK (En 7) w 20 [.agg [int l[0].1, int l[0].2]] [] (int (spanE l[0])), int (IntKind.i64.wrap (0 + 1)) = int 1,
        SameO (kM0 []).ρ (.cells c e sp), SameO (kM0 []).ρ (.cells [int (spanE l[0])] 27 true)] (by kernel_rfl)
      ⟨dec_t (by omega), rfl, h0, by have := R.at_ h0; simpa using this, CheckSpan_cv (by omega) rfl, rfl, sameO R.flat, sameO (intc [spanE l[0]] rfl)⟩
  exact FnOK.of_sfunb mixedP noGo Tryz.func72 [(400000, .code (kA [1, 4, 5, 8, 9, 10]) .norm (pE c e sp l.length (errs l)))] [SameO (kA []).ρ (.cells c e sp), Tri (En 7) w 7 true (blk Tryz.f72 0) (p0 c e sp o l.length cap) .norm (pE c e sp l.length (errs l))] (by kernel_rfl)
    ⟨sameO R.flat, Tri.rnd blk72 (LTri.pass first (mp_loop w R hl (l.length - 1) 0 (by omega)))⟩
theorem first_nil {r : Nat} (hr : 6 ≤ r) {w0 : World} : CvOK (En r) w0 71 [.sc (.slice none 0 0)] [] (int 0) := fun h _ => by
  refine pure0 rfl noId_sc (fun w => ?_) hr
  exact FnOK.of_sfunv mixedP noGo Tryz.func71 [] [] (by kernel_rfl) trivial
theorem firstErr_cv {r : Nat} (hr : 6 ≤ r) {w0 : World} {b : Nat} {e : TypeId} {sp : Bool} {cap : Option Nat} {l : List Sp} (hl : l.length ≤ 1000000) : CvOK (En r) w0 71 [.sl b 0 l.length 1 cap] [(b, .cells ((errs l).map int) e sp)] (int (anyL l)) := fun h hh => by
  have : firstOf (errs l) = anyL l := by
    clear hl hh
    induction l with
    | nil => rfl
    | cons s r ih =>
      simp only [errs, List.map_cons, firstOf, anyL]
      rcases spanE_cases s with h | h
      · rw [h, if_pos rfl, if_pos rfl]; exact ih
      · rw [h]; rfl
  rw [← this, show l.length = (errs l).length by simp [errs]]
  exact first_ok hr (errs l) (by simpa [errs] using hl) hh.1
end Go.Proofs.YtmlfcaaecofnjaaGreatDoor
