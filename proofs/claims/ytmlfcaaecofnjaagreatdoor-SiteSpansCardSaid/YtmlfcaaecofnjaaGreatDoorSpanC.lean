/- Spans: the mathematics; slices.Values, slices.Collect. -/
import Derived.Test.YtmlfcaaecofnjaaGreatDoorSpanB
import Derived.Test.YtmlfcaaecofnjaaGreatDoorSmY
set_option linter.unusedVariables false
namespace Go.Proofs.YtmlfcaaecofnjaaGreatDoor
open Go Go.Proofs Go.RowKit SM
set_option maxRecDepth 100000

theorem inS_iff (s : Sp) (q : Nat) : inS s q = true ↔ s.1 ≤ (q : Int) ∧ (q : Int) < s.2 := by simp [inS]
theorem cov_iff (l : List Sp) (q : Nat) : cov l q = true ↔ ∃ s ∈ l, s.1 ≤ (q : Int) ∧ (q : Int) < s.2 := by
  unfold cov
  rw [List.any_eq_true]
  simp only [inS_iff]
theorem cov_app (l m : List Sp) (q : Nat) : cov (l ++ m) q = (cov l q || cov m q) := by unfold cov; rw [List.any_append]
theorem cov_nil (q : Nat) : cov [] q = false := rfl
theorem cov_cons (s : Sp) (l : List Sp) (q : Nat) : cov (s :: l) q = (inS s q || cov l q) := by unfold cov; rw [List.any_cons]
theorem cov_one (s : Sp) (q : Nat) : cov [s] q = inS s q := by rw [cov_cons, cov_nil, Bool.or_false]

theorem spanE_ok {s : Sp} (h1 : 0 ≤ s.1) (h2 : s.1 < s.2) (h3 : s.2 ≤ 40000) : spanE s = 0 := by
  unfold spanE
  rw [if_neg (by omega)]
theorem spansE_cons {last : Int} {s : Sp} {r : List Sp} : spansE last (s :: r) = 0 ↔ spanE s = 0 ∧ last < s.1 ∧ spansE s.2 r = 0 := by
  simp only [spansE]
  constructor
  · intro h
    split at h
    · rename_i h1
      split at h
      · cases h
      · exact ⟨h1, by omega, h⟩
    · cases h
  · rintro ⟨h1, h2, h3⟩
    rw [if_pos h1, if_neg (by omega)]
    exact h3
/-- Where a list ends. -/
def endOf (last : Int) : List Sp → Int
  | [] => last
  | s :: r => endOf s.2 r
theorem endOf_snoc (last : Int) (l : List Sp) (x : Sp) : endOf last (l ++ [x]) = x.2 := by
  induction l generalizing last with
  | nil => rfl
  | cons s r ih => exact ih s.2
theorem spansE_snoc {last : Int} {l : List Sp} {x : Sp} : spansE last (l ++ [x]) = 0 ↔ spansE last l = 0 ∧ spanE x = 0 ∧ endOf last l < x.1 := by
  induction l generalizing last with
  | nil =>
    rw [List.nil_append, spansE_cons]
    exact ⟨fun ⟨a, b, c⟩ => ⟨rfl, a, b⟩, fun ⟨_, a, b⟩ => ⟨a, b, rfl⟩⟩
  | cons s r ih =>
    rw [List.cons_append, spansE_cons, spansE_cons, ih]
    exact ⟨fun ⟨a, b, c, d, e⟩ => ⟨⟨a, b, c⟩, d, e⟩, fun ⟨⟨a, b, c⟩, d, e⟩ => ⟨a, b, c, d, e⟩⟩
theorem spansE_low {last : Int} {l : List Sp} (h : spansE last l = 0) : ∀ s ∈ l, last < s.1 := by
  induction l generalizing last with
  | nil => intro s hs; cases hs
  | cons x r ih =>
    obtain ⟨h1, h2, h3⟩ := spansE_cons.1 h
    intro s hs
    rcases List.mem_cons.1 hs with rfl | hs
    · exact h2
    · have := ih h3 s hs
      have := spanE_zero h1
      omega
theorem cov_low {last : Int} {l : List Sp} (h : spansE last l = 0) {q : Nat} (hq : (q : Int) ≤ last) : cov l q = false := by
  rw [← Bool.not_eq_true, cov_iff]
  rintro ⟨s, hs, h1, h2⟩
  have := spansE_low h s hs
  omega

/-- One list for each set of quarters. -/
theorem canon_unique {last : Int} {l m : List Sp} (h1 : spansE last l = 0) (h2 : spansE last m = 0) (h : ∀ q : Nat, q < 40001 → cov l q = cov m q) : l = m := by
  induction l generalizing last m with
  | nil =>
    cases m with
    | nil => rfl
    | cons s r =>
      obtain ⟨k1, k2, k3⟩ := spansE_cons.1 h2
      obtain ⟨e1, e2, e3⟩ := spanE_zero k1
      have := h s.1.toNat (by omega)
      rw [cov_nil, cov_cons, (inS_iff s s.1.toNat).2 (by omega)] at this
      cases this
  | cons s r ih =>
    obtain ⟨j1, j2, j3⟩ := spansE_cons.1 h1
    obtain ⟨d1, d2, d3⟩ := spanE_zero j1
    cases m with
    | nil =>
      have := h s.1.toNat (by omega)
      rw [cov_nil, cov_cons, (inS_iff s s.1.toNat).2 (by omega)] at this
      cases this
    | cons t u =>
      obtain ⟨k1, k2, k3⟩ := spansE_cons.1 h2
      obtain ⟨e1, e2, e3⟩ := spanE_zero k1
      have low : ∀ {s t : Sp} {r u : List Sp}, spansE last (s :: r) = 0 → spansE last (t :: u) = 0 → (∀ q : Nat, q < 40001 → cov (s :: r) q = cov (t :: u) q) → ¬ s.1 < t.1 := by
        intro s t r u h1 h2 h hlt
        obtain ⟨j1, j2, j3⟩ := spansE_cons.1 h1
        obtain ⟨d1, d2, d3⟩ := spanE_zero j1
        obtain ⟨k1, k2, k3⟩ := spansE_cons.1 h2
        obtain ⟨e1, e2, e3⟩ := spanE_zero k1
        have := h s.1.toNat (by omega)
        rw [cov_cons, cov_cons, (inS_iff s s.1.toNat).2 (by omega), cov_low k3 (by omega), Bool.or_false, Bool.true_or] at this
        have := (inS_iff t s.1.toNat).1 this.symm
        omega
      have a := low h1 h2 h
      have b := low h2 h1 fun q hq => (h q hq).symm
      have hfst : s.1 = t.1 := by omega
      have high : ∀ {s t : Sp} {r u : List Sp}, s.1 = t.1 → spansE last (s :: r) = 0 → spansE last (t :: u) = 0 → (∀ q : Nat, q < 40001 → cov (s :: r) q = cov (t :: u) q) → ¬ s.2 < t.2 := by
        intro s t r u hst h1 h2 h hlt
        obtain ⟨j1, j2, j3⟩ := spansE_cons.1 h1
        obtain ⟨d1, d2, d3⟩ := spanE_zero j1
        obtain ⟨k1, k2, k3⟩ := spansE_cons.1 h2
        obtain ⟨e1, e2, e3⟩ := spanE_zero k1
        have := h s.2.toNat (by omega)
        rw [cov_cons, cov_cons, (inS_iff t s.2.toNat).2 (by omega), cov_low j3 (by omega), Bool.or_false, Bool.true_or] at this
        have := (inS_iff s s.2.toNat).1 this
        omega
      have c := high hfst h1 h2 h
      have d := high hfst.symm h2 h1 fun q hq => (h q hq).symm
      have hsnd : s.2 = t.2 := by omega
      have hst : s = t := Prod.ext hfst hsnd
      subst hst
      refine congrArg _ (ih j3 k3 fun q hq => ?_)
      by_cases hb : (q : Int) ≤ s.2
      · rw [cov_low j3 hb, cov_low k3 hb]
      · have hin : inS s q = false := by
          rw [← Bool.not_eq_true, inS_iff]
          omega
        have := h q hq
        rw [cov_cons, cov_cons, hin, Bool.false_or, Bool.false_or] at this
        exact this

/-! ### The runs of a set -/
theorem scan_spec (K : Nat → Bool) (hK : K 40000 = false) : ∀ (d t : Nat) (st : Option Nat) (out : List Sp), t + d = 40001 → spansE (-1) out = 0 →
    (match st with
      | none => endOf (-1) out < (t : Int) ∧ ∀ q, q < t → K q = cov out q
      | some s => s < t ∧ endOf (-1) out < (s : Int) ∧ (∀ q, s ≤ q → q < t → K q = true) ∧ ∀ q, q < s → K q = cov out q) →
    spansE (-1) (scanF K d t st out) = 0 ∧ ∀ q, q < 40001 → cov (scanF K d t st out) q = K q := by
  intro d
  induction d with
  | zero =>
    intro t st out ht hs hi
    have : t = 40001 := by omega
    subst this
    cases st with
    | none => exact ⟨hs, fun q hq => (hi.2 q hq).symm⟩
    | some s =>
      obtain ⟨a, b, c, d⟩ := hi
      have := c 40000 (by omega) (by omega)
      rw [hK] at this
      cases this
  | succ d ih =>
    intro t st out ht hs hi
    cases hk : K t with
    | true =>
      cases st with
      | none =>
        simp only [scanF, hk]
        refine ih (t + 1) (some t) out (by omega) hs ⟨by omega, hi.1, fun q h1 h2 => ?_, hi.2⟩
        have : q = t := by omega
        rw [this]; exact hk
      | some s =>
        simp only [scanF, hk]
        obtain ⟨a, b, c, e⟩ := hi
        refine ih (t + 1) (some s) out (by omega) hs ⟨by omega, b, fun q h1 h2 => ?_, e⟩
        by_cases hq : q = t
        · rw [hq]; exact hk
        · exact c q h1 (by omega)
    | false =>
      cases st with
      | none =>
        simp only [scanF, hk]
        obtain ⟨a, b⟩ := hi
        refine ih (t + 1) none out (by omega) hs ⟨by omega, fun q hq => ?_⟩
        by_cases h2 : q = t
        · rw [h2, hk]
          refine (Bool.eq_false_iff.2 fun h => ?_).symm
          obtain ⟨s, hs', h3, h4⟩ := (cov_iff _ _).1 h
          have : ∀ (last : Int) (l : List Sp), spansE last l = 0 → ∀ s ∈ l, s.2 ≤ endOf last l := by
            intro last l
            induction l generalizing last with
            | nil => intro _ s hs; cases hs
            | cons x r ih =>
              intro h s hs
              obtain ⟨k1, k2, k3⟩ := spansE_cons.1 h
              rcases List.mem_cons.1 hs with rfl | hs
              · have : ∀ (l : List Sp) (z : Int), spansE z l = 0 → z ≤ endOf z l := by
                  intro l
                  induction l with
                  | nil => intro z _; exact Int.le_refl _
                  | cons y w ih2 =>
                    intro z hz
                    obtain ⟨m1, m2, m3⟩ := spansE_cons.1 hz
                    have := ih2 y.2 m3
                    have := spanE_zero m1
                    simp only [endOf]
                    omega
                exact this r s.2 k3
              · exact ih x.2 k3 s hs
          have := this _ _ hs s hs'
          omega
        · exact b q (by omega)
      | some s =>
        simp only [scanF, hk]
        obtain ⟨a, b, c, e⟩ := hi
        refine ih (t + 1) none (out ++ [((s : Int), (t : Int))]) (by omega) (spansE_snoc.2 ⟨hs, spanE_ok (s := ((s : Int), (t : Int))) (by simp) (by simp; omega) (by simp; omega), b⟩) ⟨by rw [endOf_snoc]; simp only; omega, fun q hq => ?_⟩
        rw [cov_app, cov_one]
        by_cases h1 : q < s
        · rw [e q h1]
          have : inS ((s : Int), (t : Int)) q = false := by
            rw [← Bool.not_eq_true, inS_iff]
            simp only
            omega
          rw [this, Bool.or_false]
        · by_cases h2 : q < t
          · rw [c q (by omega) h2, (inS_iff _ q).2 ⟨by simp only; omega, by simp only; omega⟩, Bool.or_true]
          · have : q = t := by omega
            subst this
            have h3 : inS ((s : Int), (q : Int)) q = false := by
              rw [← Bool.not_eq_true, inS_iff]
              simp only
              omega
            have h4 : cov out q = false := by
              rw [← Bool.not_eq_true, cov_iff]
              rintro ⟨z, hz, z1, z2⟩
              have : ∀ (l : List Sp) (last : Int), spansE last l = 0 → (∀ s ∈ l, s.2 ≤ endOf last l) ∧ last ≤ endOf last l := by
                intro l
                induction l with
                | nil => intro last _; exact ⟨fun s hs => (by cases hs), Int.le_refl _⟩
                | cons y w ih2 =>
                  intro last hz
                  obtain ⟨m1, m2, m3⟩ := spansE_cons.1 hz
                  obtain ⟨n1, n2⟩ := ih2 y.2 m3
                  have := spanE_zero m1
                  refine ⟨fun s hs => ?_, by simp only [endOf]; omega⟩
                  rcases List.mem_cons.1 hs with rfl | hs
                  · exact n2
                  · exact n1 s hs
              have := (this out (-1) hs).1 z hz
              omega
            rw [hk, h3, h4]
            rfl
theorem cov_top {l : List Sp} (hv : ∀ s ∈ l, spanE s = 0) : cov l 40000 = false := by
  rw [← Bool.not_eq_true, cov_iff]
  rintro ⟨s, hs, h1, h2⟩
  have := spanE_zero (hv s hs)
  omega
theorem pickF_spec {la lb : List Sp} {want : List Int} (hK : wantK (marked la lb) want 40000 = false) : spansE (-1) (pickF la lb want) = 0 ∧ ∀ q, q < 40001 → cov (pickF la lb want) q = wantK (marked la lb) want q := by
  unfold pickF
  exact scan_spec _ hK 40001 0 none [] (by omega) rfl ⟨by simp [endOf], fun q hq => (by omega)⟩

/-! ### Sorted spans, merged -/
def mergeL (pre : List Sp) (y : Sp) : List Sp → List Sp
  | [] => pre ++ [y]
  | x :: r => if x.1 ≤ y.2 then mergeL pre (y.1, max y.2 x.2) r else mergeL (pre ++ [y]) x r
def mergeF : List Sp → List Sp
  | [] => []
  | x :: r => mergeL [] x r
theorem mergeL_spec : ∀ (l pre : List Sp) (y : Sp), (∀ s ∈ l, spanE s = 0) → spansE (-1) (pre ++ [y]) = 0 → (y :: l).Pairwise (fun a b => a.1 ≤ b.1) →
    spansE (-1) (mergeL pre y l) = 0 ∧ ∀ q, cov (mergeL pre y l) q = (cov (pre ++ [y]) q || cov l q) := by
  intro l
  induction l with
  | nil => intro pre y _ h1 _; exact ⟨h1, fun q => by simp [mergeL, cov_nil]⟩
  | cons x r ih =>
    intro pre y hv h1 hp
    obtain ⟨p1, p2⟩ := List.pairwise_cons.1 hp
    obtain ⟨p3, p4⟩ := List.pairwise_cons.1 p2
    have hyx := p1 x (List.mem_cons_self ..)
    obtain ⟨e1, e2, e3⟩ := spanE_zero (hv x (List.mem_cons_self ..))
    obtain ⟨s1, s2, s3⟩ := spansE_snoc.1 h1
    obtain ⟨f1, f2, f3⟩ := spanE_zero s2
    have hv' : ∀ s ∈ r, spanE s = 0 := fun s hs => hv s (List.mem_cons_of_mem _ hs)
    by_cases hm : x.1 ≤ y.2
    · simp only [mergeL, if_pos hm]
      have h2 : spansE (-1) (pre ++ [(y.1, max y.2 x.2)]) = 0 := spansE_snoc.2 ⟨s1, spanE_ok f1 (by simp only; omega) (by simp only; omega), s3⟩
      obtain ⟨k1, k2⟩ := ih pre (y.1, max y.2 x.2) hv' h2 (List.pairwise_cons.2 ⟨fun b hb => p1 b (List.mem_cons_of_mem _ hb), p4⟩)
      refine ⟨k1, fun q => ?_⟩
      rw [k2 q, cov_app, cov_one, cov_app, cov_one, cov_cons]
      have : inS (y.1, max y.2 x.2) q = (inS y q || inS x q) := by
        rw [Bool.eq_iff_iff, Bool.or_eq_true, inS_iff, inS_iff, inS_iff]
        simp only
        omega
      rw [this]
      simp [Bool.or_assoc]
    · simp only [mergeL, if_neg hm]
      have h2 : spansE (-1) (pre ++ [y] ++ [x]) = 0 := spansE_snoc.2 ⟨h1, hv x (List.mem_cons_self ..), by rw [endOf_snoc]; omega⟩
      obtain ⟨k1, k2⟩ := ih (pre ++ [y]) x hv' h2 p2
      refine ⟨k1, fun q => ?_⟩
      rw [k2 q, cov_app (pre ++ [y]), cov_one, cov_cons, Bool.or_assoc]
theorem mergeF_spec {l : List Sp} (hv : ∀ s ∈ l, spanE s = 0) (hp : l.Pairwise fun a b => a.1 ≤ b.1) : spansE (-1) (mergeF l) = 0 ∧ ∀ q, cov (mergeF l) q = cov l q := by
  cases l with
  | nil => exact ⟨rfl, fun q => rfl⟩
  | cons x r =>
    obtain ⟨k1, k2⟩ := mergeL_spec r [] x (fun s hs => hv s (List.mem_cons_of_mem _ hs)) (spansE_snoc.2 ⟨rfl, hv x (List.mem_cons_self ..), by have := spanE_zero (hv x (List.mem_cons_self ..)); simp [endOf]; omega⟩) hp
    exact ⟨k1, fun q => by rw [show mergeF (x :: r) = mergeL [] x r from rfl, k2 q, List.nil_append, cov_one, cov_cons]⟩
theorem cov_perm {l m : List Sp} (h : l.Perm m) (q : Nat) : cov l q = cov m q := by
  rw [Bool.eq_iff_iff, cov_iff, cov_iff]
  exact ⟨fun ⟨s, hs, k⟩ => ⟨s, h.mem_iff.1 hs, k⟩, fun ⟨s, hs, k⟩ => ⟨s, h.mem_iff.2 hs, k⟩⟩
/-! ### slices.AppendSeq over slices.Values -/
noncomputable abbrev F134 : Tr V := frm 13 [(2, .ptr 8 0), (4, .sc (.slice none 0 0)), (6, .fn 126 [] [.ptr 7 0])]
noncomputable abbrev lp (s : LoopState) : O := .loop s none F134 13 [7] (rfAs Tryz.f134) (rfBd Tryz.f134) 9
noncomputable abbrev hV (c : List V) (e : TypeId) (sp : Bool) (n : Nat) (cap : Option Nat) : Hp := ⟨8, mkH [(6, .cells c e sp), (7, .cells [.sl 6 0 n 2 cap] 24 false)]⟩
noncomputable abbrev hV8 (c : List V) (e : TypeId) (sp : Bool) (n : Nat) (cap : Option Nat) : Hp := ⟨9, mkH [(6, .cells c e sp), (7, .cells [.sl 6 0 n 2 cap] 24 false), (8, .cells [.sc (.slice none 0 0)] 24 false)]⟩
noncomputable abbrev hL0 (c : List V) (e : TypeId) (sp : Bool) (n : Nat) (cap : Option Nat) : Hp := ⟨11, mkH [(6, .cells c e sp), (7, .cells [.sl 6 0 n 2 cap] 24 false), (8, .cells [.sc (.slice none 0 0)] 24 false), (9, .dfr), (10, lp .ready)]⟩
noncomputable abbrev hL1 (c : List V) (e : TypeId) (sp : Bool) (n : Nat) (cap : Option Nat) (k : Nat) (d : List V) : Hp := ⟨12, mkH [(6, .cells c e sp), (7, .cells [.sl 6 0 n 2 cap] 24 false), (8, .cells [.sl 11 0 k 2 none] 24 false), (9, .dfr), (10, lp .ready), (11, .cells d 23 true)]⟩
noncomputable abbrev hY0 (c : List V) (e : TypeId) (sp : Bool) (n : Nat) (cap : Option Nat) (a b : Int) : Hp := ⟨15, mkH [(6, .cells c e sp), (7, .cells [.sl 6 0 n 2 cap] 24 false), (8, .cells [.sl 14 0 1 2 none] 24 false), (9, .dfr), (10, lp .ready), (11, .cells [int a, int b] 23 false), (12, .cells [int a, int b] 23 false), (13, .cells [int a, int b] 23 false), (14, .cells [int a, int b] 23 true)]⟩
noncomputable abbrev hY1 (c : List V) (e : TypeId) (sp : Bool) (n : Nat) (cap : Option Nat) (k : Nat) (d : List V) (a b : Int) : Hp := ⟨16, mkH [(6, .cells c e sp), (7, .cells [.sl 6 0 n 2 cap] 24 false), (8, .cells [.sl 15 0 (k + 1 + 1) 2 none] 24 false), (9, .dfr), (10, lp .ready), (11, .dead), (12, .cells [int a, int b] 23 false), (13, .cells [int a, int b] 23 false), (14, .cells [int a, int b] 23 false), (15, .cells d 23 true)]⟩
theorem yl0 (w : World) (c : List V) (e : TypeId) (sp : Bool) (n : Nat) (cap : Option Nat) (a b : Int) : YlOK (En 7) w 10 [.agg [int a, int b]] ((hL0 c e sp n cap).new (.cells [int a, int b] 23 false)) (boo true) (hY0 c e sp n cap a b) :=
  YlOK.of_syl mixedP [] [] (by kernel_rfl) trivial
theorem yl1 (w : World) (c : List V) (e : TypeId) (sp : Bool) (n : Nat) (cap : Option Nat) (k : Nat) (d d2 : List V) (a b : Int) (h1 : k + 1 + 1 ≤ 1048576) (h2 : (k + 1) * 2 ≤ d.length) (h3 : d.take ((k + 1) * 2) ++ [int a, int b] = d2) :
    YlOK (En 7) w 10 [.agg [int a, int b]] ((hL1 c e sp n cap (k + 1) d).new (.cells [int a, int b] 23 false)) (boo true) (hY1 c e sp n cap k d2 a b) :=
  YlOK.of_syl mixedP [(11, .ap d2)] [k + 1 + 1 ≤ 1048576, (k + 1) * 2 ≤ d.length, d.take ((k + 1) * 2) ++ [int a, int b] = d2] (by kernel_rfl) ⟨h1, h2, h3⟩

abbrev kV0 (keep : List Nat) : Wk := ⟨11, [(6, 6, true), (7, 7, false), (8, 8, false), (9, 9, false), (10, 10, true), (14, 11, true)], keep, [], 12⟩
abbrev kV1 (keep : List Nat) : Wk := ⟨11, [(6, 6, true), (7, 7, false), (8, 8, false), (9, 9, false), (10, 10, true), (15, 11, true)], keep, [], 12⟩
abbrev kV (keep : List Nat) : Wk := ⟨11, [(6, 6, true), (7, 7, false), (8, 8, false), (9, 9, false), (10, 10, true), (11, 11, true)], keep, [], 12⟩
abbrev kVs (keep : List Nat) : Wk := ⟨11, [(6, 6, true), (7, 7, false), (8, 8, false), (9, 9, false), (10, 10, true)], keep, [], 11⟩
theorem lp_same {s : LoopState} {ρ : Nat → Option Nat} (h7 : ρ 7 = some 7) (h8 : ρ 8 = some 8) (h9 : ρ 9 = some 9) : SameO ρ (lp s) := by
  refine ⟨fun i hi => ?_, h9⟩
  have : ∀ j : Fin 13, rtmp ρ ((F134.get j.val).getD undefV) = (F134.get j.val).getD undefV := fun j => by
    match j with
    | 0 => rfl
    | 1 => rfl
    | 2 => show rtmp ρ (.ptr 8 0) = .ptr 8 0
           simp [rtmp, rval, rcell, rleaf, h8]
    | 3 => rfl
    | 4 => rfl
    | 5 => rfl
    | 6 => show rtmp ρ (.fn 126 [] [.ptr 7 0]) = .fn 126 [] [.ptr 7 0]
           simp [rtmp, rval, rcell, rleaf, rleafs, h7]
    | 7 => rfl
    | 8 => rfl
    | 9 => rfl
    | 10 => rfl
    | 11 => rfl
    | 12 => rfl
  exact this ⟨i, hi⟩

noncomputable abbrev vS0 (c : List V) (e : TypeId) (sp : Bool) (n : Nat) (cap : Option Nat) : St := ⟨frm 16 [(0, .yl 10), (5, .sl 6 0 n 2 cap), (6, int n), (7, int 0)], 16, hL0 c e sp n cap, []⟩
noncomputable abbrev vS (c : List V) (e : TypeId) (sp : Bool) (n : Nat) (cap : Option Nat) (k : Nat) (d : List V) : St := ⟨frm 16 [(0, .yl 10), (5, .sl 6 0 n 2 cap), (6, int n), (7, int (k + 1 : Nat))], 16, hL1 c e sp n cap (k + 1) d, []⟩
noncomputable abbrev vE (c : List V) (e : TypeId) (sp : Bool) (n : Nat) (cap : Option Nat) (k : Nat) (d : List V) : St := ⟨frm 16 [], 16, hL1 c e sp n cap k d, []⟩
theorem vl_loop (w : World) {c : List V} {e : TypeId} {sp : Bool} {cap : Option Nat} {l : List Sp} (R : Row2 c 0 l) (hl : l.length ≤ 1000000) : ∀ (d k : Nat), k + 1 + d = l.length →
    LTri (En 7) w 11 true (rnd Tryz.f126 0) (vS c e sp l.length cap k (encS (l.take (k + 1)))) (.exit 0) (vE c e sp l.length cap l.length (encS l)) := by
  intro d
  induction d with
  | zero =>
    intro k hk
    rw [show l.take (k + 1) = l from List.take_of_length_le (by omega)]
    have h : Tri (En 7) w 11 true (rnd Tryz.f126 0) (vS c e sp l.length cap k (encS l)) (.exit 0) (vE c e sp l.length cap (k + 1) (encS l)) :=
      Tri.of_pass (S := [(8, .eq (boo false))]) (kV []) mixedP nocall_ok [boo (decide (((k + 1 : Nat) : Int) < (l.length : Int))) = boo false, SameO (kV []).ρ (.cells c e sp), SameO (kV []).ρ (lp .ready), SameO (kV []).ρ (.cells (encS l) 23 true)] (by kernel_rfl)
        ⟨dec_f (by omega), sameO R.flat, lp_same rfl rfl rfl, sameO (encS_flat l)⟩
    rw [show k + 1 = l.length by omega] at h
    exact LTri.leave (fun h => by cases h) h
  | succ d ih =>
    intro k hk
    have hlt : k + 1 < l.length := by omega
    refine LTri.pass ?_ (ih (k + 1) (by omega))
    have hd : (encS (l.take (k + 1))).take ((k + 1) * 2) ++ [int l[k + 1].1, int l[k + 1].2] = encS (l.take (k + 1 + 1)) := by
      have hlen : (l.take (k + 1)).length = k + 1 := by simp; omega
      have := encS_snoc (l.take (k + 1)) l[k + 1].1 l[k + 1].2
      rw [hlen] at this
      rw [this, List.take_succ_eq_append_getElem hlt]
    exact Tri.of_pass (S := [(8, .eq (boo true)), (9, .ix (k + 1)), (10, .ld (.agg [int l[k + 1].1, int l[k + 1].2])), (13, .call (boo true) (hY1 c e sp l.length cap k (encS (l.take (k + 1 + 1))) l[k + 1].1 l[k + 1].2)), (15, .eq (int (k + 1 + 1 : Nat)))]) (kV1 [0, 5, 6, 7]) mixedP nocall_ok
      [boo (decide (((k + 1 : Nat) : Int) < (l.length : Int))) = boo true, ((k + 1 : Nat) : Int) = ((k + 1 : Nat) : Int), k + 1 < l.length, (c.drop (0 + (k + 1) * 2)).take 2 = [int l[k + 1].1, int l[k + 1].2],
        YlOK (En 7) w 10 [.agg [int l[k + 1].1, int l[k + 1].2]] ((hL1 c e sp l.length cap (k + 1) (encS (l.take (k + 1)))).new (.cells [int l[k + 1].1, int l[k + 1].2] 23 false)) (boo true) (hY1 c e sp l.length cap k (encS (l.take (k + 1 + 1))) l[k + 1].1 l[k + 1].2),
        int (IntKind.i64.wrap (((k + 1 : Nat) : Int) + 1)) = int (k + 1 + 1 : Nat), SameO (kV1 []).ρ (.cells c e sp), SameO (kV1 []).ρ (lp .ready), SameO (kV1 []).ρ (.cells (encS (l.take (k + 1 + 1))) 23 true)] (by kernel_rfl)
      ⟨dec_t (by omega), rfl, hlt, R.at_ hlt, yl1 w _ _ _ _ _ _ _ _ _ _ (by omega) (by rw [encS_len]; simp; omega) hd, hwr (by omega), sameO R.flat, lp_same rfl rfl rfl, sameO (encS_flat _)⟩
theorem blk126 : blk Tryz.f126 0 = .block 0 (.loop (rnd Tryz.f126 0)) := by kernel_rfl
theorem Values1_ok (w : World) {c : List V} {e : TypeId} {sp : Bool} {cap : Option Nat} {l : List Sp} (R : Row2 c 0 l) (hl : l.length ≤ 1000000) (hne : l ≠ []) : FnOK (En 7) w 126 [.yl 10, .ptr 7 0] (hL0 c e sp l.length cap) (.tup []) (hL1 c e sp l.length cap l.length (encS l)) := by
  have h0 : 0 < l.length := List.length_pos_iff.2 hne
  have t1 : encS (l.take 1) = [int l[0].1, int l[0].2] := by
    rw [List.take_succ_eq_append_getElem h0]; simp [encS, enc2]
  have first : Tri (En 7) w 11 true (rnd Tryz.f126 0) (vS0 c e sp l.length cap) .norm (vS c e sp l.length cap 0 (encS (l.take 1))) := by
    rw [t1]
    exact Tri.of_pass (S := [(8, .eq (boo true)), (9, .ix 0), (10, .ld (.agg [int l[0].1, int l[0].2])), (13, .call (boo true) (hY0 c e sp l.length cap l[0].1 l[0].2)), (15, .eq (int 1))]) (kV0 [0, 5, 6, 7]) mixedP nocall_ok
      [boo (decide ((0 : Int) < (l.length : Int))) = boo true, (0 : Int) = ((0 : Nat) : Int), 0 < l.length, (c.drop (0 + 0)).take 2 = [int l[0].1, int l[0].2],
        YlOK (En 7) w 10 [.agg [int l[0].1, int l[0].2]] ((hL0 c e sp l.length cap).new (.cells [int l[0].1, int l[0].2] 23 false)) (boo true) (hY0 c e sp l.length cap l[0].1 l[0].2),
        int (IntKind.i64.wrap (0 + 1)) = int 1, SameO (kV0 []).ρ (.cells c e sp), SameO (kV0 []).ρ (lp .ready), SameO (kV0 []).ρ (.cells [int l[0].1, int l[0].2] 23 true)] (by kernel_rfl)
      ⟨dec_t (by omega), rfl, h0, by have := R.at_ h0; simpa using this, yl0 w _ _ _ _ _ _ _, rfl, sameO R.flat, lp_same rfl rfl rfl, by rw [← t1]; exact sameO (encS_flat _)⟩
  exact FnOK.of_sfun mixedP noGo Tryz.func126 [(400000, .code (kVs [0, 5, 6, 7]) .norm (vE c e sp l.length cap l.length (encS l)))]
    [SameO (kVs []).ρ (.cells c e sp), SameO (kVs []).ρ (lp .ready), Tri (En 7) w 11 true (blk Tryz.f126 0) (vS0 c e sp l.length cap) .norm (vE c e sp l.length cap l.length (encS l))] (by kernel_rfl)
    ⟨sameO R.flat, lp_same rfl rfl rfl, Tri.rnd blk126 (LTri.pass first (vl_loop w R hl (l.length - 1) 0 (by omega)))⟩

noncomputable abbrev hR (c : List V) (e : TypeId) (sp : Bool) (n : Nat) (cap : Option Nat) (d : List V) : Hp := ⟨11, mkH [(6, .cells c e sp), (7, .cells [.sl 6 0 n 2 cap] 24 false), (8, .cells [.sl 9 0 n 2 none] 24 false), (9, .cells d 23 true), (10, .dfr)]⟩
noncomputable abbrev hC (c : List V) (e : TypeId) (sp : Bool) (n : Nat) (cap : Option Nat) (d : List V) : Hp := ⟨11, mkH [(6, .cells c e sp), (7, .cells [.sl 6 0 n 2 cap] 24 false), (8, .cells [.sl 9 0 n 2 none] 24 false), (9, .cells d 23 true), (10, .dead)]⟩
def rfC (fn : Func) : Code := match findRf (Func.code fn) with
  | some (f, p, a, b) => .rangeFunc f p a b
  | none => .skip
theorem rf134 : rfC Tryz.f134 = .rangeFunc (.tmp 6) #[7] (rfAs Tryz.f134) (rfBd Tryz.f134) := by kernel_rfl
abbrev kR (keep : List Nat) : Wk := ⟨8, [(6, 6, true), (7, 7, false), (8, 8, false), (11, 9, true), (9, 10, false)], keep, [], 11⟩
abbrev kR0 (keep : List Nat) : Wk := ⟨8, [(6, 6, true), (7, 7, false), (8, 8, false)], keep, [], 9⟩
noncomputable abbrev rfS (c : List V) (e : TypeId) (sp : Bool) (n : Nat) (cap : Option Nat) : St := ⟨F134, 13, hV8 c e sp n cap, []⟩
noncomputable abbrev rfE (c : List V) (e : TypeId) (sp : Bool) (n : Nat) (cap : Option Nat) (d : List V) : St := ⟨F134, 13, hR c e sp n cap d, [10]⟩
theorem rf_ok (w : World) {c : List V} {e : TypeId} {sp : Bool} {cap : Option Nat} {l : List Sp} (R : Row2 c 0 l) (hl : l.length ≤ 1000000) (hne : l ≠ []) : Tri (En 7) w 8 true (rfC Tryz.f134) (rfS c e sp l.length cap) .norm (rfE c e sp l.length cap (encS l)) := by
  rw [rf134]
  have ok : FnOK (En 7) w 126 ([] ++ .yl ((rfS c e sp l.length cap).h.n + 1) :: [.ptr 7 0]) (((rfS c e sp l.length cap).h.new .dfr).new (.loop .ready none (rfS c e sp l.length cap).t (rfS c e sp l.length cap).n (#[7] : Array Tmp).toList (rfAs Tryz.f134) (rfBd Tryz.f134) (rfS c e sp l.length cap).h.n)) (.tup []) (hL1 c e sp l.length cap l.length (encS l)) := by
    have h1 : (((rfS c e sp l.length cap).h.new .dfr).new (.loop .ready none (rfS c e sp l.length cap).t (rfS c e sp l.length cap).n (#[7] : Array Tmp).toList (rfAs Tryz.f134) (rfBd Tryz.f134) (rfS c e sp l.length cap).h.n)) = hL0 c e sp l.length cap := by kernel_rfl
    rw [h1]
    exact Values1_ok w R hl hne
  have t := Tri.rangeFn (B := 8) (f := .tmp 6) (ps := #[7]) («as» := rfAs Tryz.f134) (bd := rfBd Tryz.f134) (st := rfS c e sp l.length cap) (by kernel_rfl) ok (s := .ready) (t := F134) (n := 13) (qs := [7]) (as' := rfAs Tryz.f134) (bd' := rfBd Tryz.f134) (D := 9) (by kernel_rfl) rfl (by kernel_rfl)
  have h2 : SM.wk (En 7) (kR [2, 4, 6]) { (rfS c e sp l.length cap) with h := (hL1 c e sp l.length cap l.length (encS l)).put 10 (lp .exhausted), d := [9] } = some (rfE c e sp l.length cap (encS l), [SameO (kR []).ρ (.cells c e sp), SameO (kR []).ρ (.cells (encS l) 23 true)]) := by kernel_rfl
  exact t.post h2 ⟨sameO R.flat, sameO (encS_flat l)⟩
theorem AppendSeq_ok (w : World) {c : List V} {e : TypeId} {sp : Bool} {cap : Option Nat} {l : List Sp} (R : Row2 c 0 l) (hl : l.length ≤ 1000000) (hne : l ≠ []) : FnOK (En 7) w 134 [.sc (.slice none 0 0), .fn 126 [] [.ptr 7 0]] (hV c e sp l.length cap) (.sl 9 0 l.length 2 none) (hC c e sp l.length cap (encS l)) :=
  FnOK.of_sfun mixedP noGo Tryz.func134 [(500000, .code (kR0 [2, 4, 6]) .norm (rfE c e sp l.length cap (encS l)))]
    [SameO (kR0 []).ρ (.cells c e sp), Tri (En 7) w 8 true (rfC Tryz.f134) (rfS c e sp l.length cap) .norm (rfE c e sp l.length cap (encS l))] (by kernel_rfl) ⟨sameO R.flat, rf_ok w R hl hne⟩
theorem Collect_ok (w : World) {c : List V} {e : TypeId} {sp : Bool} {cap : Option Nat} {l : List Sp} (R : Row2 c 0 l) (hl : l.length ≤ 1000000) (hne : l ≠ []) : FnOK (En 7) w 124 [.fn 126 [] [.ptr 7 0]] (hV c e sp l.length cap) (.sl 9 0 l.length 2 none) (hC c e sp l.length cap (encS l)) :=
  FnOK.of_sfun mixedP noGo Tryz.func124 [(4, .call (.sl 9 0 l.length 2 none) (hC c e sp l.length cap (encS l)))]
    [FnOK (En 7) w 134 [.sc (.slice none 0 0), .fn 126 [] [.ptr 7 0]] (hV c e sp l.length cap) (.sl 9 0 l.length 2 none) (hC c e sp l.length cap (encS l))] (by kernel_rfl) (AppendSeq_ok w R hl hne)
/-- slices.SortedFunc, by what slices.SortFunc does. -/
theorem SortedFunc_ok (w : World) {c : List V} {e : TypeId} {sp : Bool} {cap : Option Nat} {l m : List Sp} (R : Row2 c 0 l) (hl : l.length ≤ 1000000) (hne : l ≠ [])
    (hs : FnOK (En 7) w 125 [.sl 9 0 l.length 2 none, .fn 111 [] []] (hC c e sp l.length cap (encS l)) (.tup []) (hC c e sp l.length cap (encS m))) :
    FnOK (En 7) w 109 [.fn 126 [] [.ptr 7 0], .fn 111 [] []] (hV c e sp l.length cap) (.sl 9 0 l.length 2 none) (hC c e sp l.length cap (encS m)) :=
  FnOK.of_sfun mixedP noGo Tryz.func109 [(7, .call (.sl 9 0 l.length 2 none) (hC c e sp l.length cap (encS l))), (10, .call (.tup []) (hC c e sp l.length cap (encS m)))]
    [FnOK (En 7) w 124 [.fn 126 [] [.ptr 7 0]] (hV c e sp l.length cap) (.sl 9 0 l.length 2 none) (hC c e sp l.length cap (encS l)),
      FnOK (En 7) w 125 [.sl 9 0 l.length 2 none, .fn 111 [] []] (hC c e sp l.length cap (encS l)) (.tup []) (hC c e sp l.length cap (encS m))] (by kernel_rfl) ⟨Collect_ok w R hl hne, hs⟩
theorem Values_ok (w : World) {c : List V} {e : TypeId} {sp : Bool} {n : Nat} {cap : Option Nat} : FnOK (En 7) w 110 [.sl 6 0 n 2 cap] (hA c e sp) (.fn 126 [] [.ptr 7 0]) (hV c e sp n cap) :=
  FnOK.of_sfun mixedP noGo Tryz.func110 [] [] (by kernel_rfl) trivial
end Go.Proofs.YtmlfcaaecofnjaaGreatDoor
