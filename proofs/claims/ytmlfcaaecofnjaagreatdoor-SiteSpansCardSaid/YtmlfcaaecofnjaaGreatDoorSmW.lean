/- Functions by symbolic runs; from one heap to another. -/
import Derived.Test.YtmlfcaaecofnjaaGreatDoorSmV
set_option linter.unusedVariables false
set_option linter.unusedSimpArgs false
namespace Go.Proofs.YtmlfcaaecofnjaaGreatDoor.SM
open Go Go.RowKit
noncomputable section

theorem WR.onto {G : Nat} {w0 : World} {σ : Ren} {h : Hp} {w w' : World} (r : WR G w0 σ h w) (hb : Below w.heap.size w w') : WR G w0 σ h w' := by
  have key : ∀ i b o, σ i = some b → h.at_ i = some o → o.alive = true → w'.heap[b]? = w.heap[b]? := fun i b o e1 e2 e3 => hb.block b (r.blk e1 e2 e3)
  refine ⟨r.fresh, fun i b o e1 e2 e3 => ?_, r.own, r.old, fun i b c e sp c' e' f e1 hg e2 hw => ?_, r.injG, r.below.trans (hb.mono r.below.size), r.low, fun i b c e sp c' e' f e1 e2 hw => ?_⟩
  · rw [key i b o e1 e2 e3]; exact r.obj i b o e1 e2 e3
  · rw [key i b _ e1 e2 rfl] at hw; exact r.calm i b c e sp c' e' f e1 hg e2 hw
  · rw [key i b _ e1 e2 rfl] at hw; exact r.size i b c e sp c' e' f e1 e2 hw

section
variable {E : Env} (hm : E.P.follows .mixedOrders = true) (hname : ∀ (f : Nat) (fn : Func), E.P.funcs[f]? = some fn → (fn.name == "runtime.NumGoroutine") = false)
include hname

/-- A function whose body runs so. -/
theorem FnOK.of_tri {w0 : World} {f : FuncId} {fn : Func} {c : Code} (hf : E.P.funcs[f]? = some fn) (hb : fn.body = some c) {args : List V} {h h1 : Hp} {q : Xt} {s : St} {vs : List V}
    (ht : Tri E w0 h.n true c ⟨vparams .nil 0 args, args.length + (fn.ntmps - args.length), h, []⟩ q s) (hq : q = .norm ∨ q = .ret) (hmk : vmarks E s.d s.h = some h1) (hvs : vresults E s.t s.n h1 fn.results.toList = some vs) :
    FnOK E w0 f args h (vanswer vs) h1 := by
  intro σ w args' r g ha
  refine ⟨?_, fun m => ?_⟩
  · have hn := hname f fn hf
    simp [callFunc, hf, hn, hb]
    simp at hn
    simp [hn]
  · have hsz : args'.length = args.length := ha.length.symm
    have hsr : SR E w0 σ ⟨vparams .nil 0 args, args.length + (fn.ntmps - args.length), h, []⟩ { tmps := (⟨args'⟩ : Array Value) ++ Array.replicate (fn.ntmps - (⟨args'⟩ : Array Value).size) undef, defers := [] } w := by
      have : (⟨args'⟩ : Array Value).size = args.length := by simpa using hsz
      rw [this]
      exact ⟨r, vparams_rel ha _, .nil, g⟩
    refine callsIn_of_wp_marks (F := Fence.wide) hf hb trivial ?_
    refine ht none (fun _ => rfl) σ _ w m _ hsr fun σ1 a1 w1 hle sr => ?_
    have hle' : Ren.le σ σ1 := fun i b e => hle i b (r.lt e) e
    have leave : LeavesInM Fence.wide m E.P fn a1.tmps (Post E w0 σ (vanswer vs) h1) a1.defers .returning w1 :=
      vmarks_leaves hmk sr.wr sr.mr fun w2 r2 => by
        obtain ⟨v', q1, q2⟩ := vanswer_rel (fn := fn) r2 sr.tr hvs
        exact ⟨v', q1, v', σ1, rfl, hle', r2, q2⟩
    rcases hq with rfl | rfl
    · exact leave
    · exact leave

/-- A function by what it does to the machine. -/
theorem FnOK.of_calls {w0 : World} {f : FuncId} {fn : Func} (hf : E.P.funcs[f]? = some fn) (hb : fn.body.isNone = false) {args : List V} {h h' : Hp} {v : V}
    (H : ∀ (σ : Ren) (w : World) (args' : List Value), WR E.R w0 σ h w → GR E σ → F2 (RV σ) args args' → Calls E.P f ⟨args'⟩ w (Post E w0 σ v h')) : FnOK E w0 f args h v h' := by
  intro σ w args' r g ha
  refine ⟨?_, fun m => CallsIn.mono (callsIn_wide.2 (H σ w args' r g ha)) fun _ _ h => h⟩
  have hn := hname f fn hf
  have hb' : fn.body ≠ none := fun h => by rw [h] at hb; cases hb
  simp at hn
  simp [callFunc, hf, hn, hb']
end

section
variable {E : Env}
theorem FnOK.calls {w0 : World} {f : FuncId} {args : List V} {h h' : Hp} {v : V} (ok : FnOK E w0 f args h v h') {σ : Ren} {w : World} {args' : List Value} (r : WR E.R w0 σ h w) (g : GR E σ) (ha : F2 (RV σ) args args') : Calls E.P f ⟨args'⟩ w (Post E w0 σ v h') :=
  callsIn_wide.1 ((ok σ w args' r g ha).2 0)

/-- Contents that name no block. -/
def Flat (o : O) : Prop := o.alive = true ∧ ∀ (σ τ : Ren) (o' : Obj), OR σ o o' → OR τ o o'
theorem flat_cells {c : List V} {e : TypeId} {sp : Bool} (h : ∀ v ∈ c, ∃ x, v = .sc x) : Flat (.cells c e sp) := by
  refine ⟨rfl, fun σ τ o' r => ?_⟩
  cases r with
  | cells hl h0 hc =>
    refine .cells hl h0 fun i v hv => ?_
    obtain ⟨v', h1, h2⟩ := hc i v hv
    obtain ⟨x, rfl⟩ := h v (List.mem_of_getElem? hv)
    refine ⟨v', h1, ?_⟩
    cases h2 with
    | leaf h2 => cases h2 with
      | sc h2 => exact .leaf (.sc h2)

/-- The environment of a call of its own: all that lies there is only read. -/
def Env.lone (E : Env) (n : Nat) : Env := { E with R := n }

/-- Block j of the one heap is block ι j of the other one. -/
structure Sub (E : Env) (h0 h : Hp) (ι : Nat → Nat) : Prop where
  g : E.G ≤ h0.n
  fix : ∀ j, j < E.G → ι j = j
  obj : ∀ j o, j < h0.n → h0.at_ j = some o → o.alive = true → h.at_ (ι j) = some o ∧ Flat o
  /-- nothing else -/
  cut : ∀ j, h0.n ≤ j → h0.at_ j = none

def Ren.sub (σ : Ren) (ι : Nat → Nat) (n : Nat) : Ren := ⟨fun j => if j < n then σ (ι j) else none, fun j => σ.z (ι j)⟩
theorem Ren.sub_lt {σ : Ren} {ι : Nat → Nat} {n j : Nat} (h : j < n) : (σ.sub ι n) j = σ (ι j) := by show (if j < n then σ (ι j) else none) = _; rw [if_pos h]

theorem WR.sub {w0 : World} {h0 h : Hp} {ι : Nat → Nat} (sb : Sub E h0 h ι) {σ : Ren} {w : World} (hlt : ∀ j b, j < h0.n → σ (ι j) = some b → b < w.heap.size) (r : WR E.R w0 σ h w) : WR (E.lone h0.n).R w (σ.sub ι h0.n) h0 w := by
  have inv : ∀ {j b}, (σ.sub ι h0.n) j = some b → j < h0.n ∧ σ (ι j) = some b := fun {j b} e => by
    have e : (if j < h0.n then σ (ι j) else none) = some b := e
    split at e
    · exact ⟨‹_›, e⟩
    · cases e
  have key : ∀ j b c e sp, (σ.sub ι h0.n) j = some b → h0.at_ j = some (.cells c e sp) → h.at_ (ι j) = some (.cells c e sp) := fun j b c e sp ej hj => (sb.obj j _ (inv ej).1 hj rfl).1
  refine ⟨fun j hj => ?_, fun j b o ej hj ha => ?_, fun j b ej hj => ?_, fun j b ej hj => hlt j b (inv ej).1 (inv ej).2, fun j b c e sp c' e' f ej hj ho hw => ?_, fun i j b o p hi hj ei ej => ?_, Below.refl _ _, Nat.le_refl _, fun j b c e sp c' e' f ej hj hw => ?_⟩
  · show (if j < h0.n then σ (ι j) else none) = none
    rw [if_neg (by omega)]
  · obtain ⟨h1, h2⟩ := inv ej
    obtain ⟨k1, k2⟩ := sb.obj j o h1 hj ha
    obtain ⟨o', q1, q2⟩ := r.obj _ _ _ h2 k1 ha
    exact ⟨o', q1, k2.2 _ _ _ q2⟩
  · have h1 := (inv ej).1
    have hj : h0.n ≤ j := hj
    omega
  · have h1 := (inv ej).1
    have hj : h0.n ≤ j := hj
    omega
  · have h1 := (inv ei).1
    have hi : h0.n ≤ i := hi
    omega
  · exact r.size _ _ _ _ _ _ _ _ (inv ej).2 (key j b c e sp ej hj) hw

theorem GR.sub {h0 h : Hp} {ι : Nat → Nat} (sb : Sub E h0 h ι) {σ : Ren} (g : GR E σ) : GR (E.lone h0.n) (σ.sub ι h0.n) := fun i hi => by
  have hi : i < E.G := hi
  rw [Ren.sub_lt (Nat.lt_of_lt_of_le hi sb.g), sb.fix i hi]
  exact g i hi

/-- The values of a call of its own, as the caller's. -/
theorem RV.sub {σ : Ren} {ι : Nat → Nat} {n : Nat} {ρ : Nat → Option Nat} (hρ : ∀ i j, ρ i = some j → j < n ∧ ι j = i) {vs : List V} {vs' : List Value} (h : F2 (RV σ) vs vs') : F2 (RV (σ.sub ι n)) (rvals ρ vs) vs' := by
  refine rvals_rel (fun i j b hij hb => ?_) h
  obtain ⟨h1, h2⟩ := hρ i j hij
  refine ⟨by rw [Ren.sub_lt h1, h2]; exact hb, by show σ.z (ι j) = σ.z i; rw [h2]⟩

def noId (v : V) : Prop := rtmp (fun _ => none) v = v
theorem noId.rel {σ τ : Ren} {v : V} {v' : Value} (hn : noId v) (h : RT σ v v') : RT τ v v' := by
  have := rtmp_rel (σ := σ) (τ := τ) (ρ := fun _ => none) (fun i j b h => by cases h) h
  rw [hn] at this
  exact this

/-- A call that answers a value that names no block, and leaves what was there. -/
theorem FnOK.sub {w0 : World} {f : FuncId} {h0 h : Hp} {args args0 : List V} {v : V} (ι : Nat → Nat) (ρ : Nat → Option Nat) (sb : Sub E h0 h ι) (hρ : ∀ i j, ρ i = some j → j < h0.n ∧ ι j = i) (hargs : rvals ρ args = args0)
    (hlt : ∀ j, j < h0.n → E.G ≤ j → ∃ o, h.at_ (ι j) = some o ∧ o.alive = true) (hG : E.G ≤ E.R) (hn : noId v)
    (ok : ∀ w : World, ∃ h1, FnOK (E.lone h0.n) w f args0 h0 v h1) : FnOK E w0 f args h v h := by
  intro σ w args' r g ha
  have hl : ∀ j b, j < h0.n → σ (ι j) = some b → b < w.heap.size := fun j b hj hb => by
    by_cases hg : E.G ≤ j
    · obtain ⟨o, k1, k2⟩ := hlt j hj hg
      exact r.blk hb k1 k2
    · have hj' : j < E.G := by omega
      rw [sb.fix j hj'] at hb
      exact Nat.lt_of_lt_of_le (r.old j b hb (Nat.lt_of_lt_of_le hj' hG)) r.below.size
  have r0 := r.sub sb hl
  have ha0 : F2 (RV (σ.sub ι h0.n)) args0 args' := by rw [← hargs]; exact RV.sub hρ ha
  obtain ⟨h1, ok1⟩ := ok w
  obtain ⟨q1, q2⟩ := ok1 (σ.sub ι h0.n) w args' r0 (g.sub sb) ha0
  refine ⟨q1, fun m => CallsIn.mono (q2 m) ?_⟩
  rintro en w' ⟨v', σ', rfl, k1, k2, k3⟩
  exact ⟨v', σ, rfl, Ren.le_refl _, r.onto k2.below, hn.rel k3⟩

/-- A block of the machine's that nothing names yet. -/
theorem WR.adopt {w0 : World} {σ : Ren} {h : Hp} {w : World} {R : Nat} (r : WR R w0 σ h w) {b z : Nat} {o : O} {o' : Obj} (hb : w.heap[b]? = some o') (hnew : ∀ i p, σ i = some b → h.at_ i = some p → p.alive = false) (h0 : w0.heap.size ≤ b) (ho : ∀ τ, OR τ o o')
    (hz : ∀ (c : Array Value) (e : TypeId) (f : Nat × Nat), o' = .cells c e f → c.size = z ∧ Calm f c.size) : WR R w0 (σ.upd h.n b z) (h.new o) w ∧ Ren.le σ (σ.upd h.n b z) := by
  have hle : Ren.le σ (σ.upd h.n b z) := Ren.le_upd _ _ (r.fresh _ (Nat.le_refl _))
  have hlow := r.low
  refine ⟨⟨fun i hi => ?_, fun i c p e ha hv => ?_, fun i c e hi => ?_, fun i c e hi => ?_, fun i c d e sp c' e' f ei hg hi hw => ?_, fun i j c p q gi gj ei ej hi hpi hj hpj => ?_, r.below, Nat.le_succ_of_le r.low, fun i c d e sp c' e' f ei hi hw => ?_⟩, hle⟩
  · have hi' : h.n + 1 ≤ i := hi
    rw [Ren.upd_other _ _ _ (by omega)]; exact r.fresh i (by omega)
  · rw [Hp.at_new] at ha
    by_cases hi : i = h.n
    · subst hi
      rw [Ren.upd_same] at e
      rw [if_pos rfl] at ha
      cases e; cases ha
      exact ⟨o', hb, ho _⟩
    · rw [Ren.upd_other _ _ _ hi] at e
      rw [if_neg hi] at ha
      obtain ⟨p', h1, h2⟩ := r.obj i c p e ha hv
      exact ⟨p', h1, h2.mono hle⟩
  · by_cases hi' : i = h.n
    · subst hi'; rw [Ren.upd_same] at e; cases e; exact h0
    · rw [Ren.upd_other _ _ _ hi'] at e; exact r.own i c e hi
  · rw [Ren.upd_other _ _ _ (by omega)] at e; exact r.old i c e hi
  · rw [Hp.at_new] at hi
    by_cases h1 : i = h.n
    · subst h1
      rw [Ren.upd_same] at ei; cases ei
      rw [hb] at hw
      cases hw
      exact (hz _ _ _ rfl).2
    · rw [Ren.upd_other _ _ _ h1] at ei
      rw [if_neg h1] at hi
      exact r.calm i c d e sp c' e' f ei hg hi hw
  · rw [Hp.at_new] at hi hj
    by_cases h1 : i = h.n
    · by_cases h2 : j = h.n
      · rw [h1, h2]
      · subst h1
        rw [Ren.upd_same] at ei; cases ei
        rw [Ren.upd_other _ _ _ h2] at ej
        rw [if_neg h2] at hj
        rw [hnew j q ej hj] at hpj; cases hpj
    · rw [Ren.upd_other _ _ _ h1] at ei
      rw [if_neg h1] at hi
      by_cases h2 : j = h.n
      · subst h2
        rw [Ren.upd_same] at ej; cases ej
        rw [hnew i p ei hi] at hpi; cases hpi
      · rw [Ren.upd_other _ _ _ h2] at ej
        rw [if_neg h2] at hj
        exact r.injG i j c p q gi gj ei ej hi hpi hj hpj
  · rw [Hp.at_new] at hi
    by_cases h1 : i = h.n
    · subst h1
      rw [Ren.upd_same] at ei; cases ei
      rw [hb] at hw
      cases hw
      rw [Ren.updz_same]
      exact (hz _ _ _ rfl).1
    · rw [Ren.upd_other _ _ _ h1] at ei
      rw [if_neg h1] at hi
      rw [Ren.updz_other _ _ _ h1]
      exact r.size i c d e sp c' e' f ei hi hw

/-- A call that answers with one new block of cells. -/
theorem FnOK.sub1 {w0 : World} {f : FuncId} {h0 h : Hp} {args args0 : List V} {v : V} {c : List V} {e : TypeId} {sp : Bool} {i1 : Nat} (ι : Nat → Nat) (ρ : Nat → Option Nat) (sb : Sub E h0 h ι) (hρ : ∀ i j, ρ i = some j → j < h0.n ∧ ι j = i) (hargs : rvals ρ args = args0)
    (hlt : ∀ j, j < h0.n → E.G ≤ j → ∃ o, h.at_ (ι j) = some o ∧ o.alive = true) (hG : E.G ≤ E.R)
    (hi1 : h0.n ≤ i1) (hfl : Flat (.cells c e sp)) (u : V) (hv : rtmp (fun j => bif Nat.beq j i1 then some h.n else none) v = u) (hne : ∀ (σ : Ren) (v' : Value), RT σ v v' → ∃ b, σ i1 = some b)
    (ok : ∀ w : World, ∃ h1 : Hp, h1.at_ i1 = some (.cells c e sp) ∧ FnOK (E.lone h0.n) w f args0 h0 v h1) : FnOK E w0 f args h u (h.new (.cells c e sp)) := by
  intro σ w args' r g ha
  have hl : ∀ j b, j < h0.n → σ (ι j) = some b → b < w.heap.size := fun j b hj hb => by
    by_cases hg : E.G ≤ j
    · obtain ⟨o, k1, k2⟩ := hlt j hj hg
      exact r.blk hb k1 k2
    · have hj' : j < E.G := by omega
      rw [sb.fix j hj'] at hb
      exact Nat.lt_of_lt_of_le (r.old j b hb (Nat.lt_of_lt_of_le hj' hG)) r.below.size
  have r0 := r.sub sb hl
  have ha0 : F2 (RV (σ.sub ι h0.n)) args0 args' := by rw [← hargs]; exact RV.sub hρ ha
  obtain ⟨h1, hat, ok1⟩ := ok w
  obtain ⟨q1, q2⟩ := ok1 (σ.sub ι h0.n) w args' r0 (g.sub sb) ha0
  refine ⟨q1, fun m => CallsIn.mono (q2 m) ?_⟩
  rintro en w' ⟨v', σ', rfl, k1, k2, k3⟩
  obtain ⟨b, hb⟩ := hne σ' v' k3
  obtain ⟨o', p1, p2⟩ := k2.obj i1 b _ hb hat rfl
  have hge : w.heap.size ≤ b := k2.own i1 b hb hi1
  have r2 := r.onto k2.below
  cases p2 with
  | @cells _ c' _ _ f' hl' h0' hc' =>
  obtain ⟨r3, hle⟩ := r2.adopt (z := σ'.z i1) (o := .cells c e sp) p1 (fun i p hi hp => by
    cases hal : p.alive with
    | false => rfl
    | true => have := r.blk hi hp hal; omega) (Nat.le_trans r.below.size hge) (fun τ => hfl.2 σ' τ _ (.cells hl' h0' hc')) (fun c2 e2 f2 eq => by
      cases eq
      exact ⟨k2.size i1 b _ _ _ _ _ _ hb hat p1, k2.calm i1 b _ _ _ _ _ _ hb hi1 hat p1⟩)
  refine ⟨v', _, rfl, hle, r3, ?_⟩
  rw [← hv]
  refine rtmp_rel (fun i j c hij hc => ?_) k3
  cases hbq : Nat.beq i i1 with
  | false => rw [hbq] at hij; cases hij
  | true =>
    rw [hbq] at hij
    cases hij
    have := beq_iff.1 hbq
    subst this
    rw [hb] at hc
    cases hc
    exact ⟨Ren.upd_same _ _ _ _, Ren.updz_same _ _ _ _⟩
end
end
end Go.Proofs.YtmlfcaaecofnjaaGreatDoor.SM
