/- The program's environment; contracts in whatever heap. -/
import Derived.Test.YtmlfcaaecofnjaaGreatDoorSmX
import Derived.Test.YtmlfcaaecofnjaaGreatDoorProg
set_option linter.unusedVariables false
namespace Go.Proofs.YtmlfcaaecofnjaaGreatDoor
open Go Go.Proofs Go.RowKit SM
set_option maxRecDepth 100000

theorem namesBut1 : (List.range Tryz.prog.funcs.size).all (fun f => match Tryz.prog.funcs[f]? with | some fn => !(fn.name == "runtime.NumGoroutine") | none => true) = true := by kernel_rfl
theorem noGo (f : Nat) (fn : Func) (h : Tryz.prog.funcs[f]? = some fn) : (fn.name == "runtime.NumGoroutine") = false := by
  have := List.all_eq_true.1 namesBut1 f (List.mem_range.2 (Array.getElem?_eq_some_iff.1 h).1)
  rw [h] at this
  simpa using this
theorem mixedP : Tryz.prog.follows .mixedOrders = true := by kernel_rfl

noncomputable abbrev En (r : Nat) : SM.Env := ⟨Tryz.prog, 6, r, fun _ _ => none, fun _ _ _ _ _ _ h => by cases h⟩

theorem noId_sc {v : Value} : noId (.sc v) := rfl
theorem noId_of {v : V} (h : rtmp (fun _ => none) v = v) : noId v := h
theorem beqs (i : Nat) : Nat.beq i i = true := by simp

/-- A contract that asks nothing of memory. -/
theorem pure0 {f : FuncId} {args : List V} {v : V} (ha : rvals (fun _ => none) args = args) (hn : noId v) (ok : ∀ w, ∃ h1, FnOK (En 6) w f args ⟨6, mkH []⟩ v h1) {r : Nat} (hr : 6 ≤ r) {w0 : World} {h : Hp} : FnOK (En r) w0 f args h v h := by
  refine FnOK.sub (E := En r) (h0 := ⟨6, mkH []⟩) (args0 := args) id (fun _ => none) ⟨Nat.le_refl _, fun _ _ => rfl, fun j o _ h => (by cases h), fun j _ => rfl⟩ (fun i j h => by cases h) ha (fun j hj hg => ?_) hr hn ok
  have hj : j < 6 := hj
  have hg : 6 ≤ j := hg
  omega

/-- One block of cells that is only read. -/
theorem pure1 {f : FuncId} {args args0 : List V} {v : V} {c : List V} {e : TypeId} {sp : Bool} (hn : noId v) (hfl : Flat (.cells c e sp)) (ok : ∀ w, ∃ h1, FnOK (En (6 + 1)) w f args0 ⟨6 + 1, mkH [(6, .cells c e sp)]⟩ v h1)
    {r : Nat} (hr : 6 ≤ r) {w0 : World} {h : Hp} {b : Nat} (hb : h.at_ b = some (.cells c e sp)) (ha : rvals (fun i => bif Nat.beq i b then some 6 else none) args = args0) : FnOK (En r) w0 f args h v h := by
  have mem : ∀ j o, (⟨6 + 1, mkH [(6, .cells c e sp)]⟩ : Hp).at_ j = some o → j = 6 ∧ o = .cells c e sp := fun j o h => by
    have := mkH_get [(6, O.cells c e sp)] j o h
    simpa using this
  refine FnOK.sub (E := En r) (h0 := ⟨6 + 1, mkH [(6, .cells c e sp)]⟩) (args0 := args0) (fun j => if j = 6 then b else j) (fun i => bif Nat.beq i b then some 6 else none)
    ⟨by show 6 ≤ 6 + 1; omega, fun j hj => ?_, fun j o _ h _ => ?_, fun j hj => ?_⟩ (fun i j h => ?_) ha (fun j hj hg => ?_) hr hn ok
  · have hj : j < 6 := hj
    rw [if_neg (by omega)]
  · obtain ⟨rfl, rfl⟩ := mem j o h
    rw [if_pos rfl]
    exact ⟨hb, hfl⟩
  · cases hx : (⟨6 + 1, mkH [(6, .cells c e sp)]⟩ : Hp).at_ j with
    | none => rfl
    | some o =>
      have := (mem j o hx).1
      have hj : 6 + 1 ≤ j := hj
      omega
  · cases hq : Nat.beq i b with
    | false => rw [hq] at h; cases h
    | true =>
      rw [hq] at h
      cases h
      exact ⟨by show 6 < 6 + 1; omega, by rw [if_pos rfl]; exact (beq_iff.1 hq).symm⟩
  · have hj : j < 6 + 1 := hj
    have hg : 6 ≤ j := hg
    rw [if_pos (by omega)]
    exact ⟨_, hb, rfl⟩

theorem sc_inj {a b : Value} (h : a = b) : V.sc a = V.sc b := by rw [h]
theorem boo_eq {a b : Bool} (h : a = b) : boo a = boo b := by rw [h]
theorem int_eq {a b : Int} (h : a = b) : int a = int b := by rw [h]
theorem dec_t {p : Prop} [Decidable p] (h : p) : boo (decide p) = boo true := by rw [decide_eq_true h]
theorem dec_f {p : Prop} [Decidable p] (h : ¬ p) : boo (decide p) = boo false := by rw [decide_eq_false h]
theorem wrap_id {a : Int} (h1 : -9223372036854775808 ≤ a) (h2 : a ≤ 9223372036854775807) : IntKind.i64.wrap a = a := by
  simp only [IntKind.wrap, IntKind.signed, IntKind.bits, Bool.true_and]
  split <;> rename_i h <;> simp at h <;> omega
end Go.Proofs.YtmlfcaaecofnjaaGreatDoor
