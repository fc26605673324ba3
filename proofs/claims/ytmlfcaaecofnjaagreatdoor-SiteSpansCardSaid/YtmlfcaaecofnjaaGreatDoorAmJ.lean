/- strings.Join by a contract; a closed call over variables of the package's. -/
import Derived.Test.YtmlfcaaecofnjaaGreatDoorAmH
import Derived.Lib.Join
set_option linter.unusedVariables false
namespace Go.Proofs.YtmlfcaaecofnjaaGreatDoor.AM
open Go Go.RowKit
noncomputable section

theorem WR.onto {G : Nat} {w0 : World} {σ : Ren} {h : Hp} {w w' : World} (r : WR G w0 σ h w) (hb : Below w.heap.size w w') : WR G w0 σ h w' := by
  have key : ∀ i b o, σ i = some b → h.at_ i = some o → o.alive = true → w'.heap[b]? = w.heap[b]? := fun i b o e1 e2 e3 => hb.block b (r.blk e1 e2 e3)
  refine ⟨r.fresh, fun i b o e1 e2 e3 => ?_, r.own, r.old, fun i b c e sp c' e' f e1 hg e2 hw => ?_, r.injG, r.below.trans (hb.mono r.below.size), r.low, fun i b c e sp c' e' f e1 e2 hw => ?_⟩
  · rw [key i b o e1 e2 e3]; exact r.obj i b o e1 e2 e3
  · rw [key i b _ e1 e2 rfl] at hw; exact r.calm i b c e sp c' e' f e1 hg e2 hw
  · rw [key i b _ e1 e2 rfl] at hw; exact r.size i b c e sp c' e' f e1 e2 hw

def strs : List V → Option (List ByteArray)
  | [] => some []
  | .sc (.string s) :: r => match strs r with
    | some xs => some (s :: xs)
    | none => none
  | _ :: _ => none

theorem strs_rel {σ : Ren} : ∀ {vs : List V} {vs' : List Value} {xs : List ByteArray}, strs vs = some xs → F2 (RC σ) vs vs' → vs' = xs.map Value.string := by
  intro vs
  induction vs with
  | nil => intro vs' xs e h; cases e; cases h; rfl
  | cons v r ih =>
    intro vs' xs e h
    cases h with
    | cons h1 h2 =>
      cases v with
      | sc x =>
        cases x with
        | string s =>
          simp only [strs] at e
          split at e
          · rename_i ys hy
            cases e
            have := ih hy h2
            subst this
            cases h1 with
            | leaf h => cases h; rfl
          · cases e
        | _ => cases e
      | _ => cases e

def lensOf : List ByteArray → Nat
  | [] => 0
  | x :: r => x.size + lensOf r

def vjoin (args : List V) (h : Hp) : Option (V × Hp) :=
  match args with
  | [.sl b o n es cap, .sc (.string sep)] => bif Nat.ble 1 n then (match h.at_ b with
    | some (.cells c _ _) => bif Nat.ble (o + n) c.length then (match strs ((c.drop o).take n) with
      | some xs => bif Nat.ble (Lib.join (xs.map (·.data.toList)) sep.data.toList).length 1048576 then (bif Nat.ble xs.length 1048576 then some (.sc (.string ⟨(Lib.join (xs.map (·.data.toList)) sep.data.toList).toArray⟩), h) else none) else none
      | none => none) else none
    | _ => none) else none
  | _ => none

def oraJoin (f : FuncId) (m : Nat) (call : Inv) : Inv := fun tg args h =>
  match tg with
  | .fn g => bif Nat.beq g f then vjoin args h else call (.fn g) args h
  | .yl l => call (.yl l) args h

theorem RV.str_inv {σ : Ren} {s : ByteArray} {v : Value} (h : RV σ (.sc (.string s)) v) : v = .string s := by
  cases h with
  | cell h => cases h with
    | leaf h => cases h; rfl

theorem oraJoin_ok {E : Env} {w0 : World} {f : FuncId} {fn : Func} (hf : E.P.funcs[f]? = some fn) (hb : fn.body.isNone = false) (hn : (fn.name == "runtime.NumGoroutine") = false)
    (hJ : ∀ (bk o c : Nat) (xs : List ByteArray) (sep : ByteArray) (w : World), (∀ (j : Nat) x, xs[j]? = some x → w.cell? ⟨bk, o + j, none⟩ = some (.string x)) → bk < w.heap.size → xs.length ≤ 140737488355328 → xs.length ≤ c →
      (Lib.join (xs.map (·.data.toList)) sep.data.toList).length ≤ 140737488355328 →
      Calls E.P f #[.slice (some ⟨bk, o, none⟩) xs.length c, .string sep] w fun e w' => e = .returned (.string ⟨(Lib.join (xs.map (·.data.toList)) sep.data.toList).toArray⟩) ∧ Below w.heap.size w w')
    (m : Nat) (call : Inv) (hc : CallOK E w0 call) : CallOK E w0 (oraJoin f m call) := by
  intro tg args h v h' e σ w args' r g ha
  cases tg with
  | yl l => exact hc (.yl l) args h v h' e σ w args' r g ha
  | fn k =>
    simp only [oraJoin] at e
    cases hk : Nat.beq k f with
    | false => rw [hk] at e; exact hc (.fn k) args h v h' e σ w args' r g ha
    | true =>
      rw [hk] at e
      have := beq_iff.1 hk
      subst this
      simp only [cond_true] at e
      unfold vjoin at e
      split at e
      · rename_i b o n es cap sep
        cases h1 : Nat.ble 1 n with
        | false => rw [h1] at e; cases e
        | true =>
          rw [h1] at e
          simp only [cond_true] at e
          split at e
          · rename_i c el sp hat
            cases h2 : Nat.ble (o + n) c.length with
            | false => rw [h2] at e; cases e
            | true =>
              rw [h2] at e
              simp only [cond_true] at e
              split at e
              · rename_i xs hxs
                cases h3 : Nat.ble (Lib.join (xs.map (·.data.toList)) sep.data.toList).length 1048576 with
                | false => rw [h3] at e; cases e
                | true =>
                  rw [h3] at e
                  simp only [cond_true] at e
                  cases h4 : Nat.ble xs.length 1048576 with
                  | false => rw [h4] at e; cases e
                  | true =>
                    rw [h4] at e
                    cases e
                    have hn1 := Nat.le_of_ble_eq_true h1
                    have hl3 := Nat.le_of_ble_eq_true h3
                    have hl4 := Nat.le_of_ble_eq_true h4
                    cases ha with
                    | cons hs ht =>
                    cases ht with
                    | cons hq hnil =>
                    cases hnil
                    have hsep := hq.str_inv
                    subst hsep
                    rcases (RT.val hs).sl_inv with ⟨b', c', g1, g2, g3, g4, e5⟩ | ⟨g0, _, _⟩
                    · subst e5
                      obtain ⟨vs, q1, q2, q3⟩ := r.row g1 hat (Nat.le_of_ble_eq_true h2)
                      have hvs := strs_rel hxs q1
                      have hlen : xs.length = n := by rw [← q2, hvs]; simp
                      have hcells : ∀ (j : Nat) x, xs[j]? = some x → w.cell? ⟨b', o + j, none⟩ = some (.string x) := fun j x hx => q3 j _ (by rw [hvs]; simp [hx])
                      subst hlen
                      refine ⟨?_, fun m => ?_⟩
                      · simp at hn
                        have hb' : fn.body ≠ none := fun h => by rw [h] at hb; cases hb
                        simp [callFunc, hf, hn, hb']
                      · refine CallsIn.mono (callsIn_wide.2 (hJ b' o c' xs sep w hcells (r.blk g1 hat rfl) (by omega) g3 (by omega))) ?_
                        rintro en w' ⟨rfl, hbl⟩
                        exact ⟨_, σ, rfl, Ren.le_refl _, r.onto hbl, .val (.cell (.leaf (.sc rfl)))⟩
                    · omega
              · cases e
          · cases e
      · cases e

/-- A closed call over variables of the package's. -/
theorem closed_over {E : Env} {w : World} {f : FuncId} (hm : E.P.follows .mixedOrders = true) (hname : ∀ (f : Nat) (fn : Func), E.P.funcs[f]? = some fn → (fn.name == "runtime.NumGoroutine") = false) {ora : Nat → Inv → Inv} (hora : ∀ m call, CallOK E w call → CallOK E w (ora m call))
    {k m : Nat} {h0 : Hp} {σ0 : Ren} (e : isTrue (vinv E ora k m (.fn f) [] h0) = true) (hwr : WR E.G w σ0 h0 w) (hg : GR E σ0) :
    Calls E.P f #[] w fun en w' => en = .returned (.bool true) ∧ Below w.heap.size w w' := by
  generalize hr : vinv E ora k m (.fn f) [] h0 = r at e
  have hv : ∃ h', r = some (.sc (.bool true), h') := by
    unfold isTrue at e
    split at e
    · exact ⟨_, rfl⟩
    · cases e
  obtain ⟨h', rfl⟩ := hv
  obtain ⟨_, q⟩ := vinv_ok (w0 := w) hm hname hora (k := k) m (.fn f) [] _ _ _ hr σ0 w [] hwr hg .nil
  refine callsIn_wide.1 (CallsIn.mono (q 0) ?_)
  rintro en w' ⟨v', σ', rfl, _, h2, h3⟩
  have := h3.sc_inv
  subst this
  exact ⟨rfl, h2.below⟩
/-! #### math.Float32bits -/
def x32 (f : Nat) (g : Nat) (args : List V) : Option V :=
  match args with
  | [.sc (.float .f32 b)] => bif Nat.beq g f then some (.sc (.int .u32 b)) else none
  | _ => none

theorem x32_ok {P : Program} {f : Nat} (hx : ∀ (b : Nat) (w : World), (callFunc f #[.float .f32 b]).run P w = .ok (.value (.int .u32 b)) w) (σ : Ren) (g : Nat) (args : List V) (v : V) (args' : List Value) (w : World) (e : x32 f g args = some v) (ha : F2 (RV σ) args args') :
    ∃ v', (callFunc g ⟨args'⟩).run P w = .ok (.value v') w ∧ RT σ v v' := by
  unfold x32 at e
  split at e
  · rename_i b
    cases hk : Nat.beq g f with
    | false => rw [hk] at e; cases e
    | true =>
      rw [hk] at e
      cases e
      have := beq_iff.1 hk
      subst this
      cases ha with
      | cons h1 h2 =>
        cases h2
        cases h1 with
        | cell h => cases h with
          | leaf h =>
            cases h
            exact ⟨_, hx b w, .val (.cell (.leaf (.sc rfl)))⟩
  · cases e
end
end Go.Proofs.YtmlfcaaecofnjaaGreatDoor.AM
