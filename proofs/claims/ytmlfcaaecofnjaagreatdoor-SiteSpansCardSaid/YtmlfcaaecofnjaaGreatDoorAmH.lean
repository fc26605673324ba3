/- A closed call, by the evaluator. -/
import Derived.Test.YtmlfcaaecofnjaaGreatDoorAmG
set_option linter.unusedVariables false
namespace Go.Proofs.YtmlfcaaecofnjaaGreatDoor.AM
open Go Go.RowKit
noncomputable section

def isTrue : Option (V × Hp) → Bool
  | some (.sc (.bool true), _) => true
  | _ => false

/-- No variable of the package's is named. -/
theorem closed_true {P : Program} {f : FuncId} (hm : P.follows .mixedOrders = true) (hname : ∀ (f : Nat) (fn : Func), P.funcs[f]? = some fn → (fn.name == "runtime.NumGoroutine") = false)
    {k m : Nat} (e : isTrue (vinv (Env.plain P 0) (fun _ c => c) k m (.fn f) [] ⟨0, .nil⟩) = true) (w : World) :
    Calls P f #[] w fun en w' => en = .returned (.bool true) ∧ Below w.heap.size w w' := by
  generalize hr : vinv (Env.plain P 0) (fun _ c => c) k m (.fn f) [] ⟨0, .nil⟩ = r at e
  have hv : ∃ h', r = some (.sc (.bool true), h') := by
    unfold isTrue at e
    split at e
    · exact ⟨_, rfl⟩
    · cases e
  obtain ⟨h', rfl⟩ := hv
  have hwr : WR 0 w ⟨fun _ => none, fun _ => 0⟩ ⟨0, .nil⟩ w :=
    ⟨fun _ _ => rfl, fun i b o h => (by cases h), fun i b h => (by cases h), fun i b h => (by cases h), fun i b c e sp c' e' f h => (by cases h), fun i j b o p _ _ h => (by cases h), Below.refl _ _, Nat.le_refl _, fun i b c e sp c' e' f h => (by cases h)⟩
  obtain ⟨_, q⟩ := vinv_ok (E := (Env.plain P 0)) (w0 := w) hm hname (ora := fun _ c => c) (fun _ _ h => h) (k := k) m (.fn f) [] _ _ _ hr ⟨fun _ => none, fun _ => 0⟩ w [] hwr (fun g hg => absurd hg (Nat.not_lt_zero _)) .nil
  refine callsIn_wide.1 (CallsIn.mono (q 0) ?_)
  rintro en w' ⟨v', σ', rfl, _, h2, h3⟩
  have := h3.sc_inv
  subst this
  exact ⟨rfl, h2.below⟩
end
end Go.Proofs.YtmlfcaaecofnjaaGreatDoor.AM
