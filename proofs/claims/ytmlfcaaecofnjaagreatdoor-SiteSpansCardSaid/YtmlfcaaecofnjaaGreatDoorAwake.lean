/- The self-check of the laws of chapter 1: its contract, where the variable nacelle/site.steps holds what its initialiser lays. -/
import Derived.Test.YtmlfcaaecofnjaaGreatDoorAwakeK
import Derived.Test.YtmlfcaaecofnjaaGreatDoorJoin
set_option linter.unusedVariables false
namespace Go.Proofs.YtmlfcaaecofnjaaGreatDoor
open Go Go.Proofs Go.RowKit

def stepValues : List Value := [0, -1, -1, -1, -1, 0, -1, 1, 0, 1, 1, 1, 1, 0, 1, -1].map fun x => Value.int .i64 x

theorem awake_calls (w : World) (e : TypeId) (f : Nat × Nat) (hsz : 6 ≤ w.heap.size) (hs : w.heap[0]? = some (.cells ⟨stepValues⟩ e f)) :
    Calls Tryz.prog 11 #[] w fun en w' => en = .returned (.bool true) ∧ Below w.heap.size w w' := by
  have hrel : ∀ (σ : AM.Ren) (i : Nat) (v : AM.V), stepCells[i]? = some v → ∃ v' : Value, (⟨stepValues⟩ : Array Value)[i]? = some v' ∧ AM.RC σ v v' := by
    intro σ i v hv
    unfold stepCells at hv
    rw [List.getElem?_map] at hv
    cases hx : ([0, -1, -1, -1, -1, 0, -1, 1, 0, 1, 1, 1, 1, 0, 1, -1] : List Int)[i]? with
    | none => rw [hx] at hv; cases hv
    | some x =>
      rw [hx] at hv
      cases hv
      refine ⟨.int .i64 x, ?_, .leaf (.sc rfl)⟩
      have : (⟨stepValues⟩ : Array Value)[i]? = stepValues[i]? := by simp
      rw [this]
      unfold stepValues
      rw [List.getElem?_map, hx]
      rfl
  have hat : ∀ i o, (heap0 e).at_ i = some o → i = 0 ∧ o = .cells stepCells e false := by
    intro i o h
    unfold heap0 AM.Hp.at_ at h
    simp only [AM.Tr.get_node, AM.Tr.get_nil0] at h
    cases hb : Nat.beq i 0 with
    | true =>
      rw [hb] at h
      cases h
      exact ⟨AM.beq_iff.1 hb, rfl⟩
    | false =>
      rw [hb] at h
      cases hb2 : Nat.beq (i % 2) 1 with
      | true => rw [hb2] at h; cases h
      | false => rw [hb2] at h; cases h
  have hwr : AM.WR env.G w ⟨fun i => if i < 6 then some i else none, fun _ => 16⟩ (heap0 e) w := by
    refine ⟨fun i hi => ?_, fun i b o hσ ho _ => ?_, fun i b hσ hi => ?_, fun i b hσ hi => ?_, fun i b c e1 sp c' e2 f1 hσ hi _ _ => ?_, fun i j b o p hi _ hσ _ _ _ _ _ => ?_, Below.refl _ _, Nat.le_refl _, fun i b c e' sp c' e'' f' hσ ho hw => ?_⟩
    · have hi' : 6 ≤ i := hi
      show (if i < 6 then some i else none) = none
      rw [if_neg (by omega)]
    · obtain ⟨rfl, rfl⟩ := hat i o ho
      have hσ' : (if 0 < 6 then some 0 else none) = some b := hσ
      cases hσ'
      exact ⟨_, hs, .cells (by decide) (fun _ => by decide) (hrel _)⟩
    · have hi' : 6 ≤ i := hi
      have hσ' : (if i < 6 then some i else none) = some b := hσ
      rw [if_neg (by omega)] at hσ'
      cases hσ'
    · have hi' : i < 6 := hi
      have hσ' : (if i < 6 then some i else none) = some b := hσ
      rw [if_pos hi'] at hσ'
      cases hσ'
      omega
    · have hi' : 6 ≤ i := hi
      have hσ' : (if i < 6 then some i else none) = some b := hσ
      rw [if_neg (by omega)] at hσ'
      cases hσ'
    · have hi' : 6 ≤ i := hi
      have hσ' : (if i < 6 then some i else none) = some b := hσ
      rw [if_neg (by omega)] at hσ'
      cases hσ'
    · obtain ⟨rfl, ho'⟩ := hat i _ ho
      have hσ' : (if 0 < 6 then some 0 else none) = some b := hσ
      cases hσ'
      rw [hs] at hw
      cases hw
      rfl
  have hgr : AM.GR env ⟨fun i => if i < 6 then some i else none, fun _ => 16⟩ := fun g hg => by
    have hg' : g < 6 := hg
    show (if g < 6 then some g else none) = some g
    rw [if_pos hg']
  exact AM.closed_over (E := env) mixed noGoroutines (fun m call hc => AM.oraJoin_ok (E := env) (f := 106) Tryz.func106 (by kernel_rfl) (noGoroutines _ _ Tryz.func106) Tryz.strings_Join m call hc) (awakeTrue e) hwr hgr
#print axioms awake_calls
end Go.Proofs.YtmlfcaaecofnjaaGreatDoor
