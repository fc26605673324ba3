/- The law SiteRoses answers true whatever rose and number it is called with, where the package's variables read as its text lays them: the row and the card. No condition beyond the row's own. -/
import Derived.Test.YtmlfcaaecofnjaaGreatDoorRose3
import Derived.Test.YtmlfcaaecofnjaaGreatDoorRow01
import Derived.Test.YtmlfcaaecofnjaaGreatDoorCards
import Derived.Test.YtmlfcaaecofnjaaGreatDoorTie
set_option linter.unusedVariables false
namespace Go.Proofs.YtmlfcaaecofnjaaGreatDoor
open Go Go.Proofs Go.ChangeShapes Go.WideShapes Go.ChangeAt Go.WideMaps Go.WideElems Go.RowKit SM
set_option maxRecDepth 100000

section
variable {H : Type} {enc : TypeId × Value → H}

theorem rose_open {W : World} {base : Nat} {v : Value} {d : DataW H} {ps : List MemPlace} (hval : Value.okWide Tryz.prog W .any base 74 v) (h : DataW.Trod enc Tryz.prog W 0 (fun _ => true) true 74 v d ps) : ∃ r : Nat → Int, v = .agg ⟨roseV r⟩ := by
  obtain ⟨cs, rfl, hsz, _⟩ : ∃ cs, v = .agg cs ∧ cs.size = Tryz.prog.cellsOf 74 ∧ Row.okWide Tryz.prog W .any base 74 cs := by
    unfold Value.okWide at hval
    rw [Tryz.underlying74] at hval
    exact hval
  obtain ⟨fuel, hf⟩ := h
  have hf : DataW.trod enc Tryz.prog W 0 (fun _ => true) true fuel 74 cs.toList = some (d, ps) := hf
  obtain ⟨xs, m, rfl, _, hl, hn, hel⟩ := DataW.trod_array Tryz.underlying74 hf
  have c74 : Tryz.prog.cellsOf 74 = 408 := by kernel_rfl
  have c72 : Tryz.prog.cellsOf 72 = 51 := by kernel_rfl
  have c3 : Tryz.prog.cellsOf 3 = 1 := by kernel_rfl
  rw [c74] at hl
  rw [c72] at hel
  have cell : ∀ j, j < 408 → ∃ n, cs.toList[j]? = some (.int .i64 n) := by
    intro j hj
    have hs : j / 51 < 8 := by omega
    have h1 := hel (j / 51) hs
    rw [List.getElem?_eq_getElem (by omega)] at h1
    obtain ⟨ys, m2, rfl, _, hl2, hn2, hel2⟩ := DataW.trod_array und72 h1
    rw [c3] at hel2
    have hi : j % 51 < 51 := Nat.mod_lt _ (by decide)
    have h2 := hel2 (j % 51) hi
    rw [List.getElem?_eq_getElem (by omega)] at h2
    obtain ⟨n, e1, _, _⟩ := DataW.trod_int und3 h2
    refine ⟨n, ?_⟩
    have h3 := congrArg (fun l => l[0]?) e1
    simp only [List.getElem?_cons_zero] at h3
    rw [List.getElem?_take_of_lt (by decide), List.getElem?_drop, List.getElem?_take_of_lt (by omega), List.getElem?_drop] at h3
    rw [show j / 51 * 51 + (j % 51 * 1 + 0) = j by omega] at h3
    exact h3
  refine ⟨fun j => match cs.toList[j]? with | some (.int _ n) => n | _ => 0, ?_⟩
  have key : cs.toList = roseV fun j => match cs.toList[j]? with | some (.int _ n) => n | _ => 0 := by
    apply List.ext_getElem?
    intro j
    unfold roseV
    by_cases hj : j < 408
    · obtain ⟨n, hn⟩ := cell j hj
      rw [List.getElem?_map, List.getElem?_range hj]
      simp only [Option.map_some, hn]
    · rw [List.getElem?_eq_none (by omega), List.getElem?_eq_none (by simp; omega)]
  rw [← key]
end

theorem SiteRoses_calls (W : World) (hL : laidMetH Tryz.prog laidL W) (r : Nat → Int) (q : Int) : Calls Tryz.prog 8 #[.agg ⟨roseV r⟩, .int .i64 q] W fun e W' => e = .returned (.bool true) ∧ Below W.heap.size W W' := by
  obtain ⟨e, f, h0, hz⟩ := of_laid hL
  obtain ⟨h1, ok⟩ := SiteRoses_fn W (awake_cv (Nat.le_refl _) ⟨e, f, h0, hz⟩) r q
  have hat : ∀ j o, (⟨6, mkH []⟩ : Hp).at_ j = some o → False := fun j o h => by cases h
  have hwr : WR 6 W ⟨fun i => if i < 6 then some i else none, fun _ => 0⟩ ⟨6, mkH []⟩ W := by
    refine ⟨fun i hi => ?_, fun i b o _ ho _ => (hat i o ho).elim, fun i b hσ hi => ?_, fun i b hσ hi => ?_, fun i b c e sp c' e' f _ _ ho _ => (hat i _ ho).elim, fun i j b o p _ _ _ _ ho _ _ _ => (hat i o ho).elim, Below.refl _ _, Nat.le_refl _, fun i b c e sp c' e' f _ ho _ => (hat i _ ho).elim⟩
    · have hi : 6 ≤ i := hi
      show (if i < 6 then some i else none) = none
      rw [if_neg (by omega)]
    · have hσ : (if i < 6 then some i else none) = some b := hσ
      rw [if_neg (by omega)] at hσ
      cases hσ
    · have hσ : (if i < 6 then some i else none) = some b := hσ
      rw [if_pos hi] at hσ
      cases hσ
      omega
  have hgr : GR (En 6) ⟨fun i => if i < 6 then some i else none, fun _ => 0⟩ := fun g hg => by
    have hg : g < 6 := hg
    show (if g < 6 then some g else none) = some g
    rw [if_pos hg]
  have hrc : ∀ σ : SM.Ren, F2 (RC σ) (roseC r) (roseV r) := fun σ => by
    unfold roseC roseV
    induction List.range 408 with
    | nil => exact .nil
    | cons j l ih => exact .cons (.leaf (.sc rfl)) ih
  refine (FnOK.calls ok hwr hgr (args' := [.agg ⟨roseV r⟩, .int .i64 q]) (.cons (.agg (hrc _)) (.cons (.cell (.leaf (.sc rfl))) .nil))).mono ?_
  rintro en w' ⟨v', σ', rfl, _, h2, h3⟩
  have := h3.sc_inv
  subst this
  exact ⟨rfl, h2.below⟩

theorem siteRoses_lifted (os : Os) (started : os.Started) (H : Type) (enc : TypeId × Value → H) :
    ReturnsInHanded {} Tryz.checked os 8 .any (fun w args => (Rows.siteRosesSpec.pre enc Tryz.prog Tryz.f8 [] false w args ∧ laidMetH Tryz.prog laidL w) ∧ sizedMet enc Tryz.prog Tryz.f8 (OpenSpec.ofChange Rows.siteRosesSpec) false w args)
      (Rows.siteRosesSpec.post enc Tryz.prog Tryz.f8 false true false false) := by
  refine returnsInHanded_of_change_and (C := Tryz.checked) (X := fun w _ => laidMetH Tryz.prog laidL w) (fun _ _ _ hh h => h.of_heap hh) ownOf started (by kernel_rfl) Tryz.func8
    (ChangeSpec.witness_shaped (enc := enc) (C := Tryz.checked) (os := os) (X := fun w _ => laidMetH Tryz.prog laidL w) false (World.doorLaid Tryz.prog 37 os) #[.agg ⟨roseV zeroR⟩, .int .i64 0] 8 rfl (World.shaped_of_RefB (by kernel_rfl) (by kernel_rfl)) (by kernel_rfl) (by kernel_rfl) (by kernel_rfl) (door_met os _)) ?_
  intro W base args ds gs before hval0 hW _ _ hL _
  have hval : ∀ (j : Nat) t v, Tryz.f8.params[j]? = some t → args[j]? = some v → Value.okWide Tryz.prog W .any base t v := hval0
  have hW' := hW
  obtain ⟨p, q, hA0, hV, rfl, hfz, hnd⟩ := hW
  have hA : DataW.TrodAll enc Tryz.prog W 0 (fun _ => true) true Tryz.f8.params.toList args.toList ds p := hA0
  rw [Tryz.params8] at hA hval
  obtain ⟨v0, vs0, d0, ds0, p0, q0, hargs, rfl, rfl, h0, r0⟩ := trodAll_cons hA
  obtain ⟨v1, vs1, d1, ds1, p1, q1, rfl, rfl, rfl, h1, r1⟩ := trodAll_cons r0
  obtain ⟨rfl, rfl, rfl⟩ := trodAll_nil r1
  obtain rfl : args = #[v0, v1] := by cases args; simp_all
  obtain ⟨rfl, rfl⟩ := trodVars_none hV
  have k0 := h0
  have lt0 : ∀ x ∈ p0, x.block < W.heap.size := by obtain ⟨m, hm⟩ := k0; exact DataW.trod_lt m _ _ _ hm
  obtain ⟨r, rfl⟩ := rose_open (hval 0 74 v0 rfl rfl) h0
  obtain ⟨n, rfl, rfl, rfl, w1⟩ := open_int Tryz.underlying3 (hval 1 3 v1 rfl rfl) h1
  clear hA0 hval0
  refine (SiteRoses_calls W hL r n).mono fun e W' ⟨he, bel⟩ => ?_
  subst he
  exact ⟨_, rfl, _, _, _, [], _, [], hW', trodAll_mk1 (shut_bool Tryz.underlying4 _), (trodAll_cons_mk (Below.trod laidOut (by kernel_rfl) (of_decide_eq_true (by kernel_rfl)) k0 bel lt0) (trodAll_cons_mk (shut_int Tryz.underlying3 w1) trodAll_mk0)), rfl, bel.frame _, fun h => by cases h⟩

theorem siteRoses_holds : Rows.SiteRosesSaid :=
  OpenClaim.holds_of_wide 8 Tryz.f8 rfl rfl rfl rfl rfl rfl rfl ⟨rfl, rfl, rfl, rfl, rfl⟩ rfl rfl rfl rfl rfl (by kernel_rfl) Tryz.func8 (by kernel_rfl)
    (of_decide_eq_true (by kernel_rfl)) (by unfold Func.isWrapper; first | (rw [if_pos (by decide +kernel)]; kernel_rfl) | (rw [if_neg (by decide +kernel)]; exact ⟨rfl, rfl⟩))
    (fun os started H enc _ => siteRoses_lifted os started H enc)

theorem siteRoses_card : Rows.SiteRosesCardSaid :=
  Claim7.holds_tied_plain_at .later [] [.data, .data, .data, .data] true (true, "34d7b204f2e3fc4ebf822479184bfeb310fe2a18cc541f5555db87938ed187ff") false
    siteRoses_holds (fun _ h => by cases h) (by kernel_rfl) (fun _ h => by cases h) siteRoses_row_tie rfl ⟨rfl, rfl⟩ (by kernel_rfl) rfl
    (fun f fn hf hfn => by
      obtain rfl : f = 8 := Option.some.inj ((show Tryz.prog.funcNamed "nacelle/nacellelaw01.SiteRoses" = some 8 by kernel_rfl).symm.trans hf) |>.symm
      obtain rfl : fn = Tryz.f8 := (Option.some.inj (Tryz.func8.symm.trans hfn)).symm
      exact ⟨by kernel_rfl, fun j t ht => by
        rw [Tryz.params8] at ht
        have hm : t ∈ [74, 3] := by simpa using Array.mem_of_getElem? ht
        have hall : ([74, 3].all fun u => !Tryz.prog.wantsStandIn u) = true := by kernel_rfl
        exact (show Tryz.prog.wantsStandIn t = false by simpa using List.all_eq_true.1 hall t hm)⟩)
    (by kernel_rfl)
#print axioms siteRoses_card
end Go.Proofs.YtmlfcaaecofnjaaGreatDoor
