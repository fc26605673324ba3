/- The self-check of the laws of chapter 1: what it answers, by the kernel. -/
import Derived.Test.YtmlfcaaecofnjaaGreatDoorAmJ
import Derived.Test.YtmlfcaaecofnjaaGreatDoorProg
import Derived.Laws.Externs
set_option linter.unusedVariables false
namespace Go.Proofs.YtmlfcaaecofnjaaGreatDoor
open Go Go.Proofs
set_option maxRecDepth 100000

theorem namesBut : (List.range Tryz.prog.funcs.size).all (fun f => match Tryz.prog.funcs[f]? with | some fn => !(fn.name == "runtime.NumGoroutine") | none => true) = true := by kernel_rfl
theorem noGoroutines (f : Nat) (fn : Func) (h : Tryz.prog.funcs[f]? = some fn) : (fn.name == "runtime.NumGoroutine") = false := by
  have := List.all_eq_true.1 namesBut f (List.mem_range.2 (Array.getElem?_eq_some_iff.1 h).1)
  rw [h] at this
  simpa using this
theorem mixed : Tryz.prog.follows .mixedOrders = true := by kernel_rfl

theorem bits108 (b : Nat) (w : World) : (callFunc 108 #[.float .f32 b]).run Tryz.prog w = .ok (.value (.int .u32 b)) w := by
  have hn : Extern.findNext Tryz.f108 = none := by kernel_rfl
  have he : Extern.find Tryz.f108 = some Extern.MathFloatBits.float32bits := by kernel_rfl
  rw [run_callFunc_extern Tryz.func108 (noGoroutines _ _ Tryz.func108) (by kernel_rfl) hn he]
  rfl

noncomputable def env : AM.Env := ⟨Tryz.prog, 6, AM.x32 108, fun σ g args v args' w e h => AM.x32_ok bits108 σ g args v args' w e h⟩

noncomputable def stepCells : List AM.V := [0, -1, -1, -1, -1, 0, -1, 1, 0, 1, 1, 1, 1, 0, 1, -1].map fun x => AM.V.sc (.int .i64 x)
/-- The heap before the call: the variable nacelle/site.steps alone. -/
noncomputable def heap0 (e : TypeId) : AM.Hp := ⟨6, .node (some (.cells stepCells e false)) .nil .nil⟩

theorem awakeTrue (e : TypeId) : AM.isTrue (AM.vinv env (AM.oraJoin 106) 100000 60 (.fn 11) [] (heap0 e)) = true := by kernel_rfl
end Go.Proofs.YtmlfcaaecofnjaaGreatDoor
