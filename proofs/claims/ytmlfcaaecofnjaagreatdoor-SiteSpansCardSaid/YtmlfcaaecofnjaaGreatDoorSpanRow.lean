/- The law SiteSpans answers true whatever span and list of spans it is called with, where the package's variables read as its text lays them: the row and the card. No condition beyond the row's own. -/
import Derived.Test.YtmlfcaaecofnjaaGreatDoorSpanD
import Derived.Test.YtmlfcaaecofnjaaGreatDoorRow01
import Derived.Test.YtmlfcaaecofnjaaGreatDoorCards
import Derived.Test.YtmlfcaaecofnjaaGreatDoorTie
import Derived.Deep.SlicePairs
set_option linter.unusedVariables false
namespace Go.Proofs.YtmlfcaaecofnjaaGreatDoor
open Go Go.Proofs Go.ChangeShapes Go.WideShapes Go.ChangeAt Go.WideMaps Go.WideElems Go.RowKit SM
set_option maxRecDepth 100000

section
variable {H : Type} {enc : TypeId × Value → H}

theorem a23 : ∃ f0 f1 : Field, Tryz.prog.underlying 23 = some (.struct #[f0, f1]) ∧ (f0.type = 3 ∧ f0.offset = 0) ∧ f1.type = 3 ∧ f1.offset = 1 := ⟨_, _, Tryz.underlying23, ⟨rfl, rfl⟩, rfl, rfl⟩
theorem cells3 : Tryz.prog.cellsOf 3 = 1 := by kernel_rfl
theorem cells23 : Tryz.prog.cellsOf 23 = 2 := by kernel_rfl
theorem span_open {W : World} {base : Nat} {v : Value} {d : DataW H} {ps : List MemPlace} (hval : Value.okWide Tryz.prog W .any base 23 v) (h : DataW.Trod enc Tryz.prog W 0 (fun _ => true) true 23 v d ps) : ∃ a b : Int, v = .agg ⟨[.int .i64 a, .int .i64 b]⟩ := by
  obtain ⟨f0, f1, hu, ⟨t0, o0⟩, t1, o1⟩ := a23
  obtain ⟨cs, rfl, hsz, _⟩ : ∃ cs, v = .agg cs ∧ cs.size = Tryz.prog.cellsOf 23 ∧ Row.okWide Tryz.prog W .any base 23 cs := by
    unfold Value.okWide at hval
    rw [hu] at hval
    exact hval
  obtain ⟨fuel, hf⟩ := h
  have hf : DataW.trod enc Tryz.prog W 0 (fun _ => true) true fuel 23 cs.toList = some (d, ps) := hf
  obtain ⟨xs, n, rfl, _, hl, hn, hg⟩ := DataW.trod_struct hu hf
  have g0 := hg 0 f0 rfl
  have g1 := hg 1 f1 rfl
  rw [t0, o0, cells3] at g0
  rw [t1, o1, cells3] at g1
  have hlen : cs.toList.length = 2 := by rw [Array.length_toList, hsz, cells23]
  cases cs with
  | mk l =>
  match l, hlen, xs, hn, g0, g1 with
  | [c0, c1], _, [x0, x1], _, g0, g1 =>
    have g0' : DataW.trod enc Tryz.prog W 0 (fun _ => true) true n 3 [c0] = some x0 := by simpa using g0
    have g1' : DataW.trod enc Tryz.prog W 0 (fun _ => true) true n 3 [c1] = some x1 := by simpa using g1
    obtain ⟨m0, e0, _, _⟩ := DataW.trod_int Tryz.underlying3 g0'
    obtain ⟨m1, e1, _, _⟩ := DataW.trod_int Tryz.underlying3 g1'
    simp at e0 e1
    exact ⟨m0, m1, by rw [e0, e1]⟩

/-- A slice of spans that a call is handed. -/
inductive InSl (W : World) : Value → Prop where
  | nil : InSl W (.slice none 0 0)
  | none (a : Addr) : InSl W (.slice (some a) 0 0)
  | row {b o len cap : Nat} {C : Array Value} {e : TypeId} {f : Nat × Nat} (hb : W.heap[b]? = some (.cells C e f)) (hl : len ≤ cap) (hz : o + cap * 2 ≤ C.size) (V : Nat → Int × Int)
      (hv : ∀ i, i < len → C[o + i * 2]? = some (.int .i64 (V i).1) ∧ C[o + i * 2 + 1]? = some (.int .i64 (V i).2)) : InSl W (.slice (some ⟨b, o, .none⟩) len cap)
theorem spot_none {W : World} {a : Addr} {v : Value} (h : W.cell? (a.add 0) = some v) : a.spot = none := by
  obtain ⟨b, o, s⟩ := a
  cases s with
  | none => rfl
  | some s =>
    exfalso
    simp only [World.cell?, Addr.add, if_true] at h
    split at h <;> simp at h
theorem cell_row {W : World} {a : Addr} {k : Nat} {v : Value} (hs : a.spot = none) (h : W.cell? (a.add k) = some v) : ∃ C e f, a = ⟨a.block, a.off, none⟩ ∧ W.heap[a.block]? = some (.cells C e f) ∧ C[a.off + k]? = some v := by
  obtain ⟨b, o, s⟩ := a
  obtain rfl : s = none := hs
  have : (⟨b, o, none⟩ : Addr).add k = ⟨b, o + k, none⟩ := add_plain b o k
  rw [this] at h
  simp only [World.cell?] at h
  split at h
  · rename_i C e f hc
    exact ⟨C, e, f, rfl, hc, by simpa using h⟩
  · cases h
theorem slice_open {W : World} {base : Nat} {v : Value} {d : DataW H} {ps : List MemPlace} (hval : Value.okWide Tryz.prog W .any base 24 v) (h : DataW.Trod enc Tryz.prog W 0 (fun _ => true) true 24 v d ps) : InSl W v := by
  obtain ⟨f0, f1, hu, ⟨t0, o0⟩, t1, o1⟩ := a23
  obtain ⟨a0, len0, cap0, rfl⟩ := okWide_slice Tryz.underlying24 hval
  obtain ⟨fuel, hf⟩ := h
  have hf : DataW.trod enc Tryz.prog W 0 (fun _ => true) true fuel 24 [.slice a0 len0 cap0] = some (d, ps) := hf
  rcases Go.Deep.open_slice_pairs Tryz.underlying24 hu cells23 o0 o1 (by rw [t0]; exact cells3) (by rw [t1]; exact cells3) hf with ⟨hcs, _⟩ | ⟨a, len, cap, m, n, V0, V1, D0, D1, P0, P1, hcs, _, hl, hm, hmm, _, hx⟩
  · simp at hcs
    obtain ⟨rfl, rfl, rfl⟩ := hcs
    exact .nil
  · simp at hcs
    obtain ⟨rfl, rfl, rfl⟩ := hcs
    simp only [if_true] at hmm
    subst hmm
    by_cases h0 : m = 0
    · subst h0
      obtain rfl : len0 = 0 := by omega
      exact .none a
    · have ints : ∀ i, i < m → ∃ x y : Int, V0 i = .int .i64 x ∧ V1 i = .int .i64 y := fun i hi => by
        obtain ⟨_, _, k0, k1⟩ := hx i hi
        rw [t0] at k0
        rw [t1] at k1
        obtain ⟨x, e0, _, _⟩ := DataW.trod_int Tryz.underlying3 k0
        obtain ⟨y, e1, _, _⟩ := DataW.trod_int Tryz.underlying3 k1
        simp at e0 e1
        exact ⟨x, y, e0, e1⟩
      have hs : a.spot = none := spot_none (v := V0 0) (by have := (hx 0 (by omega)).1; simpa using this)
      obtain ⟨C, e, f, ha, hb, _⟩ := cell_row hs (hx 0 (by omega)).1
      have at_ : ∀ k v, W.cell? (a.add k) = some v → C[a.off + k]? = some v := fun k v hk => by
        obtain ⟨C2, e2, f2, _, hb2, h2⟩ := cell_row hs hk
        rw [hb] at hb2
        cases hb2
        exact h2
      rw [ha]
      refine .row hb hl ?_ (fun i => (match V0 i with | .int _ x => x | _ => 0, match V1 i with | .int _ x => x | _ => 0)) fun i hi => ?_
      · have := at_ _ _ (hx (m - 1) (by omega)).2.1
        have := (Array.getElem?_eq_some_iff.1 this).1
        omega
      · obtain ⟨x, y, e0, e1⟩ := ints i (by omega)
        obtain ⟨c0, c1, _, _⟩ := hx i (by omega)
        have q0 := at_ _ _ c0
        have q1 := at_ _ _ c1
        rw [e0] at q0
        rw [e1] at q1
        simp only [e0, e1]
        exact ⟨q0, by rw [show a.off + i * 2 + 1 = a.off + (i * 2 + 1) by omega]; exact q1⟩

/-- The list that lies there. -/
def listV (V : Nat → Int × Int) (len : Nat) : List Sp := (List.range len).map V
/-- What is known of the block. -/
def cutC (C : Array Value) (o n : Nat) : List V := (List.range C.size).map fun j => if o ≤ j ∧ j < o + n then (match C[j]? with | some v => .sc v | none => .unk) else .unk
theorem cutC_flat (C : Array Value) (o n : Nat) : FlatC (cutC C o n) := fun v hv => by
  unfold cutC at hv
  obtain ⟨j, _, rfl⟩ := List.mem_map.1 hv
  split
  · split
    · exact .inr ⟨_, rfl⟩
    · exact .inl rfl
  · exact .inl rfl
theorem cutC_len (C : Array Value) (o n : Nat) : (cutC C o n).length = C.size := by unfold cutC; rw [List.length_map, List.length_range]
theorem cutC_in {C : Array Value} {o n j : Nat} {v : Value} (h1 : o ≤ j) (h2 : j < o + n) (h : C[j]? = some v) : (cutC C o n)[j]? = some (.sc v) := by
  have hj : j < C.size := (Array.getElem?_eq_some_iff.1 h).1
  unfold cutC
  rw [List.getElem?_map, List.getElem?_range hj]
  simp only [Option.map_some]
  rw [if_pos ⟨h1, h2⟩, h]
theorem cut_row {C : Array Value} {o len : Nat} {V : Nat → Int × Int} (hv : ∀ i, i < len → C[o + i * 2]? = some (.int .i64 (V i).1) ∧ C[o + i * 2 + 1]? = some (.int .i64 (V i).2)) : Row2 (cutC C o (len * 2)) o (listV V len) := by
  have hl : (listV V len).length = len := by simp [listV]
  refine ⟨?_, cutC_flat _ _ _⟩
  rw [hl]
  refine List.ext_getElem? fun j => ?_
  by_cases hj : j < len * 2
  · rw [List.getElem?_take_of_lt hj, List.getElem?_drop]
    have hk : j / 2 < (listV V len).length := by rw [hl]; omega
    have hg : (listV V len)[j / 2] = V (j / 2) := by simp [listV]
    have r0 := (row2_enc (listV V len)).at0 hk
    have r1 := (row2_enc (listV V len)).at1 hk
    rw [hg] at r0 r1
    obtain ⟨h0, h1⟩ := hv (j / 2) (by omega)
    rcases Nat.mod_two_eq_zero_or_one j with hm | hm
    · rw [show 0 + j / 2 * 2 + 0 = j by omega] at r0
      rw [r0]
      rw [show o + j / 2 * 2 = o + j by omega] at h0
      exact cutC_in (by omega) (by omega) h0
    · rw [show 0 + j / 2 * 2 + 1 = j by omega] at r1
      rw [r1]
      rw [show o + j / 2 * 2 + 1 = o + j by omega] at h1
      exact cutC_in (by omega) (by omega) h1
  · rw [List.getElem?_eq_none (by rw [List.length_take]; omega), List.getElem?_eq_none (by rw [encS_len, hl]; omega)]

theorem wr6 (W : World) (hz : 6 ≤ W.heap.size) : WR 6 W ⟨fun i => if i < 6 then some i else none, fun _ => 0⟩ ⟨6, mkH []⟩ W := by
  have hat : ∀ j o, (⟨6, mkH []⟩ : Hp).at_ j = some o → False := fun j o h => by cases h
  refine ⟨fun i hi => ?_, fun i b o _ ho _ => (hat i o ho).elim, fun i b hσ hi => ?_, fun i b hσ hi => ?_, fun i b c e sp c' e' f _ _ ho _ => (hat i _ ho).elim, fun i j b o p _ _ _ _ ho _ _ _ => (hat i o ho).elim, Below.refl _ _, Nat.le_refl _, fun i b c e sp c' e' f _ ho _ => (hat i _ ho).elim⟩
  · have hi : 6 ≤ i := hi
    show (if i < 6 then some i else none) = none
    rw [if_neg (by omega)]
  · have hσ : (if i < 6 then some i else none) = some b := hσ
    rw [if_neg (by omega)] at hσ
    cases hσ
  · have hσ : (if i < 6 then some i else none) = some b := hσ
    rw [if_pos hi] at hσ
    cases hσ
    omega
def σ7 (x : Option Nat) (z : Nat) : SM.Ren := ⟨fun i => if i < 6 then some i else if i = 6 then x else none, fun _ => z⟩
theorem gr7 (x : Option Nat) (z : Nat) : GR (En 7) (σ7 x z) := fun g hg => by
  have hg : g < 6 := hg
  show (if g < 6 then some g else _) = some g
  rw [if_pos hg]
theorem wr7 (W : World) (hz : 6 ≤ W.heap.size) (c : List V) (e : TypeId) (sp : Bool) (x : Option Nat) (z : Nat) (hx : ∀ b, x = some b → ∃ C f, W.heap[b]? = some (.cells C e f) ∧ C.size = z ∧ ∀ σ : SM.Ren, OR σ (.cells c e sp) (.cells C e f)) : WR 7 W (σ7 x z) (hA c e sp) W := by
  have mem : ∀ j o, (hA c e sp).at_ j = some o → j = 6 ∧ o = .cells c e sp := fun j o h => by
    have := mkH_get [(6, O.cells c e sp)] j o h
    simpa using this
  have s6 : (σ7 x z) 6 = x := by show (if 6 < 6 then some 6 else if 6 = 6 then x else none) = x; simp
  refine ⟨fun i hi => ?_, fun i b o hσ ho _ => ?_, fun i b hσ hi => ?_, fun i b hσ hi => ?_, fun i b c e sp c' e' f hσ hi ho _ => ?_, fun i j b o p hi _ _ _ ho _ _ _ => ?_, Below.refl _ _, Nat.le_refl _, fun i b c2 e2 sp2 c' e' f hσ ho hw => ?_⟩
  · have hi : 7 ≤ i := hi
    show (if i < 6 then some i else if i = 6 then x else none) = none
    rw [if_neg (by omega), if_neg (by omega)]
  · obtain ⟨rfl, rfl⟩ := mem i o ho
    rw [s6] at hσ
    obtain ⟨C, f, h1, _, h3⟩ := hx b hσ
    exact ⟨_, h1, h3 _⟩
  · have hσ : (if i < 6 then some i else if i = 6 then x else none) = some b := hσ
    rw [if_neg (by omega), if_neg (by omega)] at hσ
    cases hσ
  · by_cases h6 : i = 6
    · subst h6
      rw [s6] at hσ
      obtain ⟨C, f, h1, _, _⟩ := hx b hσ
      exact (Array.getElem?_eq_some_iff.1 h1).1
    · have hσ : (if i < 6 then some i else if i = 6 then x else none) = some b := hσ
      rw [if_pos (by omega)] at hσ
      cases hσ
      omega
  · have := (mem i _ ho).1
    omega
  · have := (mem i _ ho).1
    omega
  · obtain ⟨rfl, h2⟩ := mem i _ ho
    rw [s6] at hσ
    obtain ⟨C, f2, h1, h3, _⟩ := hx b hσ
    rw [h1] at hw
    cases hw
    exact h3

theorem SiteSpans_calls (W : World) (hL : laidMetH Tryz.prog laidL W) (a b : Int) {v : Value} (hv : InSl W v) : Calls Tryz.prog 3 #[.agg ⟨[.int .i64 a, .int .i64 b]⟩, v] W fun e W' => e = .returned (.bool true) ∧ Below W.heap.size W W' := by
  obtain ⟨e, f, h0, hz⟩ := of_laid hL
  have sp : ∀ σ : SM.Ren, RV σ (.agg [int a, int b]) (.agg ⟨[.int .i64 a, .int .i64 b]⟩) := fun σ => .agg (.cons (.leaf (.sc rfl)) (.cons (.leaf (.sc rfl)) .nil))
  have fin : ∀ {E : SM.Env} {h h1 : Hp} {σ : SM.Ren} {u : V}, FnOK E W 3 [.agg [int a, int b], u] h (boo true) h1 → E.P = Tryz.prog → WR E.R W σ h W → GR E σ → RV σ u v → Calls Tryz.prog 3 #[.agg ⟨[.int .i64 a, .int .i64 b]⟩, v] W fun e W' => e = .returned (.bool true) ∧ Below W.heap.size W W' := by
    intro E h h1 σ u ok hP hwr hgr hu
    have key := FnOK.calls ok hwr hgr (args' := [.agg ⟨[.int .i64 a, .int .i64 b]⟩, v]) (.cons (sp _) (.cons hu .nil))
    rw [hP] at key
    refine key.mono ?_
    rintro en w' ⟨v', σ', rfl, _, h2, h3⟩
    have := h3.sc_inv
    subst this
    exact ⟨rfl, h2.below⟩
  cases hv with
  | nil =>
    obtain ⟨h1, ok⟩ := law_nil W (awake_cv (Nat.le_refl _) ⟨e, f, h0, hz⟩) a b
    exact fin ok rfl (wr6 W hz) (fun g hg => by
      have hg : g < 6 := hg
      show (if g < 6 then some g else none) = some g
      rw [if_pos hg]) (.cell (.leaf (.sc rfl)))
  | none a' =>
    obtain ⟨h1, ok⟩ := law_sl W (awake_cv (r := 7) (by omega) ⟨e, f, h0, hz⟩) a b (c := []) (e := 23) (sp := false) (o := 0) (cap := .none) (l := []) (row2_enc [])
    exact fin ok rfl (wr7 W hz [] 23 false .none 0 (fun b h => by cases h)) (gr7 _ _) (.cell (.leaf .slE))
  | @row b' o len cap C e' f' hb hl hcap V hv =>
    have R := cut_row hv
    have hlen : (listV V len).length = len := by simp [listV]
    obtain ⟨h1, ok⟩ := law_sl W (awake_cv (r := 7) (by omega) ⟨e, f, h0, hz⟩) a b (e := e') (sp := false) (cap := .none) R
    rw [hlen] at ok
    refine fin ok rfl (wr7 W hz _ e' false (some b') C.size (fun b2 h => ?_)) (gr7 _ _) (.cell (.leaf (.sl (by show (if 6 < 6 then some 6 else if 6 = 6 then some b' else none) = some b'; simp) (fun k h => by cases h) hl hcap)))
    cases h
    refine ⟨C, f', hb, rfl, fun σ => .cells (by rw [cutC_len]; exact Nat.le_refl _) (fun _ => cutC_len _ _ _) fun i u hu => ?_⟩
    have hi : i < C.size := by
      have := (List.getElem?_eq_some_iff.1 hu).1
      rw [cutC_len] at this
      exact this
    refine ⟨C[i], Array.getElem?_eq_getElem hi, ?_⟩
    unfold cutC at hu
    rw [List.getElem?_map, List.getElem?_range hi] at hu
    simp only [Option.map_some, Option.some.injEq] at hu
    subst hu
    split
    · rename_i hio
      rw [Array.getElem?_eq_getElem hi]
      have hk : (i - o) / 2 < len := by omega
      obtain ⟨q0, q1⟩ := hv ((i - o) / 2) hk
      have : ∃ n, C[i] = .int .i64 n := by
        rcases Nat.mod_two_eq_zero_or_one (i - o) with hm | hm
        · rw [show o + (i - o) / 2 * 2 = i by omega, Array.getElem?_eq_getElem hi] at q0
          exact ⟨_, Option.some.inj q0⟩
        · rw [show o + (i - o) / 2 * 2 + 1 = i by omega, Array.getElem?_eq_getElem hi] at q1
          exact ⟨_, Option.some.inj q1⟩
      obtain ⟨n, hn⟩ := this
      rw [hn]
      exact .leaf (.sc rfl)
    · exact .unk

theorem siteSpans_lifted (os : Os) (started : os.Started) (H : Type) (enc : TypeId × Value → H) :
    ReturnsInHanded {} Tryz.checked os 3 .any (fun w args => (Rows.siteSpansSpec.pre enc Tryz.prog Tryz.f3 [] false w args ∧ laidMetH Tryz.prog laidL w) ∧ sizedMet enc Tryz.prog Tryz.f3 (OpenSpec.ofChange Rows.siteSpansSpec) false w args)
      (Rows.siteSpansSpec.post enc Tryz.prog Tryz.f3 false true false false) := by
  refine returnsInHanded_of_change_and (C := Tryz.checked) (X := fun w _ => laidMetH Tryz.prog laidL w) (fun _ _ _ hh h => h.of_heap hh) ownOf started (by kernel_rfl) Tryz.func3
    (ChangeSpec.witness_shaped (enc := enc) (C := Tryz.checked) (os := os) (X := fun w _ => laidMetH Tryz.prog laidL w) false (World.doorLaid Tryz.prog 37 os) #[.agg ⟨[.int .i64 0, .int .i64 0]⟩, .slice none 0 0] 8 rfl (World.shaped_of_RefB (by kernel_rfl) (by kernel_rfl)) (by kernel_rfl) (by kernel_rfl) (by kernel_rfl) (door_met os _)) ?_
  intro W base args ds gs before hval0 hW _ _ hL _
  have hval : ∀ (j : Nat) t v, Tryz.f3.params[j]? = some t → args[j]? = some v → Value.okWide Tryz.prog W .any base t v := hval0
  have hW' := hW
  obtain ⟨p, q, hA0, hV, rfl, hfz, hnd⟩ := hW
  have hA : DataW.TrodAll enc Tryz.prog W 0 (fun _ => true) true Tryz.f3.params.toList args.toList ds p := hA0
  rw [Tryz.params3] at hA hval
  obtain ⟨v0, vs0, d0, ds0, p0, q0, hargs, rfl, rfl, h0, r0⟩ := trodAll_cons hA
  obtain ⟨v1, vs1, d1, ds1, p1, q1, rfl, rfl, rfl, h1, r1⟩ := trodAll_cons r0
  obtain ⟨rfl, rfl, rfl⟩ := trodAll_nil r1
  obtain rfl : args = #[v0, v1] := by cases args; simp_all
  obtain ⟨rfl, rfl⟩ := trodVars_none hV
  have k0 := h0
  have k1 := h1
  have lt0 : ∀ x ∈ p0, x.block < W.heap.size := by obtain ⟨m, hm⟩ := k0; exact DataW.trod_lt m _ _ _ hm
  have lt1 : ∀ x ∈ p1, x.block < W.heap.size := by obtain ⟨m, hm⟩ := k1; exact DataW.trod_lt m _ _ _ hm
  obtain ⟨a, b, rfl⟩ := span_open (hval 0 23 v0 rfl rfl) h0
  have hin := slice_open (hval 1 24 v1 rfl rfl) h1
  clear hA0 hval0
  refine (SiteSpans_calls W hL a b hin).mono fun e W' ⟨he, bel⟩ => ?_
  subst he
  exact ⟨_, rfl, _, _, _, [], _, [], hW', trodAll_mk1 (shut_bool Tryz.underlying4 _), (trodAll_cons_mk (Below.trod laidOut (by kernel_rfl) (of_decide_eq_true (by kernel_rfl)) k0 bel lt0) (trodAll_cons_mk (Below.trod laidOut (by kernel_rfl) (of_decide_eq_true (by kernel_rfl)) k1 bel lt1) trodAll_mk0)), rfl, bel.frame _, fun h => by cases h⟩

theorem siteSpans_holds : Rows.SiteSpansSaid :=
  OpenClaim.holds_of_wide 3 Tryz.f3 rfl rfl rfl rfl rfl rfl rfl ⟨rfl, rfl, rfl, rfl, rfl⟩ rfl rfl rfl rfl rfl (by kernel_rfl) Tryz.func3 (by kernel_rfl)
    (of_decide_eq_true (by kernel_rfl)) (by unfold Func.isWrapper; first | (rw [if_pos (by decide +kernel)]; kernel_rfl) | (rw [if_neg (by decide +kernel)]; exact ⟨rfl, rfl⟩))
    (fun os started H enc _ => siteSpans_lifted os started H enc)

theorem siteSpans_card : Rows.SiteSpansCardSaid :=
  Claim7.holds_tied_plain_at .later [] [.data, .data, .data, .data] true (true, "34d7b204f2e3fc4ebf822479184bfeb310fe2a18cc541f5555db87938ed187ff") false
    siteSpans_holds (fun _ h => by cases h) (by kernel_rfl) (fun _ h => by cases h) siteSpans_row_tie rfl ⟨rfl, rfl⟩ (by kernel_rfl) rfl
    (fun f fn hf hfn => by
      obtain rfl : f = 3 := Option.some.inj ((show Tryz.prog.funcNamed "nacelle/nacellelaw01.SiteSpans" = some 3 by kernel_rfl).symm.trans hf) |>.symm
      obtain rfl : fn = Tryz.f3 := (Option.some.inj (Tryz.func3.symm.trans hfn)).symm
      exact ⟨by kernel_rfl, fun j t ht => by
        rw [Tryz.params3] at ht
        have hm : t ∈ [23, 24] := by simpa using Array.mem_of_getElem? ht
        have hall : ([23, 24].all fun u => !Tryz.prog.wantsStandIn u) = true := by kernel_rfl
        exact (show Tryz.prog.wantsStandIn t = false by simpa using List.all_eq_true.1 hall t hm)⟩)
    (by kernel_rfl)
#print axioms siteSpans_card
end
end Go.Proofs.YtmlfcaaecofnjaaGreatDoor
