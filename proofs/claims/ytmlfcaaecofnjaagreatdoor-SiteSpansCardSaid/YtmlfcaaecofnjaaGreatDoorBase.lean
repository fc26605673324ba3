/- The program's environment; contracts in whatever heap. -/
import Derived.Test.YtmlfcaaecofnjaaGreatDoorSmX
import Derived.Test.YtmlfcaaecofnjaaGreatDoorProg
set_option linter.unusedVariables false
namespace Go.Proofs.YtmlfcaaecofnjaaGreatDoor
open Go Go.Proofs Go.RowKit SM
set_option maxRecDepth 100000

theorem namesBut1 : (List.range Tryz.prog.funcs.size).all (fun f => match Tryz.prog.funcs[f]? with | some fn => !(fn.name == "runtime.NumGoroutine") | none => true) = true := by kernel_rfl
theorem noGo (f : Nat) (fn : Func) (h : Tryz.prog.funcs[f]? = some fn) : (fn.name == "runtime.NumGoroutine") = false := by
  have := List.all_eq_true.1 namesBut1 f (List.mem_range.2 (Array.getElem?_eq_some_iff.1 h).1)
  rw [h] at this
  simpa using this
theorem mixedP : Tryz.prog.follows .mixedOrders = true := by kernel_rfl

noncomputable abbrev En (r : Nat) : SM.Env := ⟨Tryz.prog, 6, r, fun _ _ => none, fun _ _ _ _ _ _ h => by cases h⟩

theorem noId_sc {v : Value} : noId (.sc v) := rfl
theorem noId_of {v : V} (h : rtmp (fun _ => none) v = v) : noId v := h
theorem beqs (i : Nat) : Nat.beq i i = true := by simp

/-- A contract that asks nothing of memory. -/
theorem pure0 {f : FuncId} {args : List V} {v : V} (ha : rvals (fun _ => none) args = args) (hn : noId v) (ok : ∀ w, ∃ h1, FnOK (En 6) w f args ⟨6, mkH []⟩ v h1) {r : Nat} (hr : 6 ≤ r) {w0 : World} {h : Hp} : FnOK (En r) w0 f args h v h := by
  refine FnOK.sub (E := En r) (h0 := ⟨6, mkH []⟩) (args0 := args) id (fun _ => none) ⟨Nat.le_refl _, fun _ _ => rfl, fun j o _ h => (by cases h), fun j _ => rfl⟩ (fun i j h => by cases h) ha (fun j hj hg => ?_) hr hn ok
  have hj : j < 6 := hj
  have hg : 6 ≤ j := hg
  omega

theorem sub_one {r : Nat} {h : Hp} {b : Nat} {c : List V} {e : TypeId} {sp : Bool} (hfl : Flat (.cells c e sp)) (hb : h.at_ b = some (.cells c e sp)) : Sub (En r) ⟨6 + 1, mkH [(6, .cells c e sp)]⟩ h (fun j => if j = 6 then b else j) := by
  have mem : ∀ j o, (⟨6 + 1, mkH [(6, .cells c e sp)]⟩ : Hp).at_ j = some o → j = 6 ∧ o = .cells c e sp := fun j o h => by
    have := mkH_get [(6, O.cells c e sp)] j o h
    simpa using this
  refine ⟨by show 6 ≤ 6 + 1; omega, fun j hj => ?_, fun j o _ h _ => ?_, fun j hj => ?_⟩
  · have hj : j < 6 := hj
    rw [if_neg (by omega)]
  · obtain ⟨rfl, rfl⟩ := mem j o h
    rw [if_pos rfl]
    exact ⟨hb, hfl⟩
  · cases hx : (⟨6 + 1, mkH [(6, .cells c e sp)]⟩ : Hp).at_ j with
    | none => rfl
    | some o =>
      have := (mem j o hx).1
      have hj : 6 + 1 ≤ j := hj
      omega
theorem rho_one {b i j : Nat} (h : (bif Nat.beq i b then some 6 else none) = some j) : j < 6 + 1 ∧ (if j = 6 then b else j) = i := by
  cases hq : Nat.beq i b with
  | false => rw [hq] at h; cases h
  | true =>
    rw [hq] at h
    cases h
    exact ⟨by omega, by rw [if_pos rfl]; exact (beq_iff.1 hq).symm⟩

/-- One block of cells that is only read. -/
theorem pure1 {f : FuncId} {args args0 : List V} {v : V} {c : List V} {e : TypeId} {sp : Bool} (hn : noId v) (hfl : Flat (.cells c e sp)) (ok : ∀ w, ∃ h1, FnOK (En (6 + 1)) w f args0 ⟨6 + 1, mkH [(6, .cells c e sp)]⟩ v h1)
    {r : Nat} (hr : 6 ≤ r) {w0 : World} {h : Hp} {b : Nat} (hb : h.at_ b = some (.cells c e sp)) (ha : rvals (fun i => bif Nat.beq i b then some 6 else none) args = args0) : FnOK (En r) w0 f args h v h := by
  refine FnOK.sub (E := En r) (h0 := ⟨6 + 1, mkH [(6, .cells c e sp)]⟩) (args0 := args0) (fun j => if j = 6 then b else j) (fun i => bif Nat.beq i b then some 6 else none) (sub_one hfl hb) (fun i j h => rho_one h) ha (fun j hj hg => ?_) hr hn ok
  have hj : j < 6 + 1 := hj
  have hg : 6 ≤ j := hg
  rw [if_pos (by omega)]
  exact ⟨_, hb, rfl⟩

theorem sl_ne {i n es : Nat} {cap : Option Nat} (h : n ≠ 0 ∨ cap.isSome = true) (σ : SM.Ren) (v' : Value) (hv : RT σ (.sl i 0 n es cap) v') : ∃ b, σ i = some b := by
  rcases hv.sl_inv with ⟨b, _, hb, _⟩ | ⟨h1, h2, _⟩
  · exact ⟨b, hb⟩
  · rcases h with h | h
    · exact absurd h1 h
    · rw [h2] at h; cases h

/-- A slice of a new block, out of one block that is only read. -/
theorem new1 {f : FuncId} {args args0 : List V} {n es i1 : Nat} {cap : Option Nat} {c c1 : List V} {e e1 : TypeId} {sp sp1 : Bool} (hi : 6 + 1 ≤ i1) (hnz : n ≠ 0 ∨ cap.isSome = true) (hfl : Flat (.cells c e sp)) (hfl1 : Flat (.cells c1 e1 sp1))
    (ok : ∀ w, ∃ h1 : Hp, h1.at_ i1 = some (.cells c1 e1 sp1) ∧ FnOK (En (6 + 1)) w f args0 ⟨6 + 1, mkH [(6, .cells c e sp)]⟩ (.sl i1 0 n es cap) h1)
    {r : Nat} (hr : 6 ≤ r) {w0 : World} {h : Hp} {b : Nat} (hb : h.at_ b = some (.cells c e sp)) (ha : rvals (fun i => bif Nat.beq i b then some 6 else none) args = args0) : FnOK (En r) w0 f args h (.sl h.n 0 n es cap) (h.new (.cells c1 e1 sp1)) := by
  refine FnOK.sub1 (E := En r) (h0 := ⟨6 + 1, mkH [(6, .cells c e sp)]⟩) (args0 := args0) (v := .sl i1 0 n es cap) (i1 := i1) (fun j => if j = 6 then b else j) (fun i => bif Nat.beq i b then some 6 else none) (sub_one hfl hb) (fun i j h => rho_one h) ha (fun j hj hg => ?_) hr hi hfl1 _ (by simp [rtmp, rval, rcell, rleaf]) (sl_ne hnz) ok
  have hj : j < 6 + 1 := hj
  have hg : 6 ≤ j := hg
  rw [if_pos (by omega)]
  exact ⟨_, hb, rfl⟩
/-- A slice of a new block, out of nothing. -/
theorem new0 {f : FuncId} {args : List V} {n es i1 : Nat} {cap : Option Nat} {c1 : List V} {e1 : TypeId} {sp1 : Bool} (hi : 6 ≤ i1) (hnz : n ≠ 0 ∨ cap.isSome = true) (hfl1 : Flat (.cells c1 e1 sp1)) (ha : rvals (fun _ => none) args = args)
    (ok : ∀ w, ∃ h1 : Hp, h1.at_ i1 = some (.cells c1 e1 sp1) ∧ FnOK (En 6) w f args ⟨6, mkH []⟩ (.sl i1 0 n es cap) h1)
    {r : Nat} (hr : 6 ≤ r) {w0 : World} {h : Hp} : FnOK (En r) w0 f args h (.sl h.n 0 n es cap) (h.new (.cells c1 e1 sp1)) := by
  refine FnOK.sub1 (E := En r) (h0 := ⟨6, mkH []⟩) (args0 := args) (v := .sl i1 0 n es cap) (i1 := i1) id (fun _ => none) ⟨Nat.le_refl _, fun _ _ => rfl, fun j o _ h => (by cases h), fun j _ => rfl⟩ (fun i j h => by cases h) ha (fun j hj hg => ?_) hr hi hfl1 _ (by simp [rtmp, rval, rcell, rleaf]) (sl_ne hnz) ok
  have hj : j < 6 := hj
  have hg : 6 ≤ j := hg
  omega

/-- Two blocks of cells that are only read. -/
theorem pure2 {f : FuncId} {args args0 : List V} {v : V} {c c2 : List V} {e e2 : TypeId} {sp sp2 : Bool} (hn : noId v) (hfl : Flat (.cells c e sp)) (hfl2 : Flat (.cells c2 e2 sp2)) (ok : ∀ w, ∃ h1, FnOK (En (6 + 2)) w f args0 ⟨6 + 2, mkH [(6, .cells c e sp), (6 + 1, .cells c2 e2 sp2)]⟩ v h1)
    {r : Nat} (hr : 6 ≤ r) {w0 : World} {h : Hp} {b b2 : Nat} (hb : h.at_ b = some (.cells c e sp)) (hb2 : h.at_ b2 = some (.cells c2 e2 sp2)) (ha : rvals (fun i => bif Nat.beq i b then some 6 else bif Nat.beq i b2 then some (6 + 1) else none) args = args0) : FnOK (En r) w0 f args h v h := by
  have mem : ∀ j o, (⟨6 + 2, mkH [(6, .cells c e sp), (6 + 1, .cells c2 e2 sp2)]⟩ : Hp).at_ j = some o → (j = 6 ∧ o = .cells c e sp) ∨ (j = 6 + 1 ∧ o = .cells c2 e2 sp2) := fun j o h => by
    have := mkH_get [(6, O.cells c e sp), (6 + 1, O.cells c2 e2 sp2)] j o h
    simpa using this
  refine FnOK.sub (E := En r) (h0 := ⟨6 + 2, mkH [(6, .cells c e sp), (6 + 1, .cells c2 e2 sp2)]⟩) (args0 := args0) (fun j => if j = 6 then b else if j = 6 + 1 then b2 else j) (fun i => bif Nat.beq i b then some 6 else bif Nat.beq i b2 then some (6 + 1) else none)
    ⟨by show 6 ≤ 6 + 2; omega, fun j hj => ?_, fun j o _ h _ => ?_, fun j hj => ?_⟩ (fun i j h => ?_) ha (fun j hj hg => ?_) hr hn ok
  · have hj : j < 6 := hj
    rw [if_neg (by omega), if_neg (by omega)]
  · rcases mem j o h with ⟨rfl, rfl⟩ | ⟨rfl, rfl⟩
    · rw [if_pos rfl]; exact ⟨hb, hfl⟩
    · rw [if_neg (by omega), if_pos rfl]; exact ⟨hb2, hfl2⟩
  · cases hx : (⟨6 + 2, mkH [(6, .cells c e sp), (6 + 1, .cells c2 e2 sp2)]⟩ : Hp).at_ j with
    | none => rfl
    | some o =>
      have hj : 6 + 2 ≤ j := hj
      rcases mem j o hx with ⟨h1, _⟩ | ⟨h1, _⟩ <;> omega
  · cases hq : Nat.beq i b with
    | true =>
      rw [hq] at h
      cases h
      exact ⟨by show 6 < 6 + 2; omega, by rw [if_pos rfl]; exact (beq_iff.1 hq).symm⟩
    | false =>
      rw [hq] at h
      cases hq2 : Nat.beq i b2 with
      | true =>
        rw [hq2] at h
        cases h
        exact ⟨by show 6 + 1 < 6 + 2; omega, by rw [if_neg (by omega), if_pos rfl]; exact (beq_iff.1 hq2).symm⟩
      | false => rw [hq2] at h; cases h
  · have hj : j < 6 + 2 := hj
    have hg : 6 ≤ j := hg
    by_cases h1 : j = 6
    · rw [if_pos h1]; exact ⟨_, hb, rfl⟩
    · rw [if_neg h1, if_pos (by omega)]; exact ⟨_, hb2, rfl⟩

theorem sc_inj {a b : Value} (h : a = b) : V.sc a = V.sc b := by rw [h]
theorem boo_eq {a b : Bool} (h : a = b) : boo a = boo b := by rw [h]
theorem int_eq {a b : Int} (h : a = b) : int a = int b := by rw [h]
theorem dec_t {p : Prop} [Decidable p] (h : p) : boo (decide p) = boo true := by rw [decide_eq_true h]
theorem dec_f {p : Prop} [Decidable p] (h : ¬ p) : boo (decide p) = boo false := by rw [decide_eq_false h]
theorem wrap_id {a : Int} (h1 : -9223372036854775808 ≤ a) (h2 : a ≤ 9223372036854775807) : IntKind.i64.wrap a = a := by
  simp only [IntKind.wrap, IntKind.signed, IntKind.bits, Bool.true_and]
  split <;> rename_i h <;> simp at h <;> omega
end Go.Proofs.YtmlfcaaecofnjaaGreatDoor
