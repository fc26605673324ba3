/- A region that draws its order of evaluation: whatever the order, the answer is the text's. -/
import Derived.Test.YtmlfcaaecofnjaaGreatDoorAmD
set_option linter.unusedVariables false
set_option linter.unusedSimpArgs false
namespace Go.Proofs.YtmlfcaaecofnjaaGreatDoor.AM
open Go Go.RowKit
noncomputable section

section
variable {E : Env} {call : Inv} {ops : Array Oper} {st0 : St} {q : Prep} {rs : List Rc} {f : S4} {h0 : Hp} {M0 : Tr Nat}

theorem opAt {ops : Array Oper} {k : Nat} (h : k < ops.size) : ∃ o, ops[k]? = some o := ⟨_, Array.getElem?_eq_getElem h⟩

theorem setDst_get (t : Tr V) (o : Oper) (v : V) (x : Nat) : (setDst t o v).get x = if o.dst = some x then some v else t.get x := by
  unfold setDst
  cases o.dst with
  | none => simp
  | some y =>
    simp only [Tr.get_set, Option.some.injEq]
    by_cases h : x = y
    · subst h; simp
    · rw [if_neg h, if_neg (Ne.symm h)]

structure Pl (E : Env) (call : Inv) (ops : Array Oper) (st0 : St) (q : Prep) (rs : List Rc) (f : S4) (h0 : Hp) (M0 : Tr Nat) : Prop where
  prep : PrepOK (fun j => ops[j]?) st0.n ops.size q
  res : reserve E q.A 0 q.L st0.h .nil = some (h0, M0)
  dr : draws E call ops q st0.n st0.d ops.toList 0 ⟨st0.t, 0, h0, M0⟩ = some (rs, f)
  ck : q.A = [] ∨ chk E ops q st0.n st0.d ((0, h0) :: q.A.map fun x => (x.1 + 1, (stAt f rs (x.1 + 1)).h)) ops.toList 0 rs = true

def valAt (rs : List Rc) (k : Nat) : V := ((rs[k]?).map (·.v)).getD undefV
def rtAt (rs : List Rc) (k : Nat) : Tr V := ((rs[k]?).map (·.r)).getD .nil

def isA (ops : Array Oper) (j : Nat) : Prop := ∃ o, ops[j]? = some o ∧ kd o.op = .anchor
def isLev (ops : Array Oper) (p : Nat) : Prop := p = 0 ∨ (0 < p ∧ isA ops (p - 1))

theorem dstep_inv {n : Nat} {d : List Nat} {i : Nat} {s s' : S4} {o : Oper} {v : V} {r : Tr V} (h : dstep E call ops q n d i s o = some (v, r, s')) :
    ∃ b, q.B.get i = some b ∧ narrow q n i b s.t (looks ops o) = some r ∧ s'.t = setDst s.t o v ∧
    ((kd o.op = .mover ∧ s'.p = s.p ∧ s'.h = s.h ∧ s'.M = s.M ∧ ((vwanted ops ⟨r, n, s.h, d⟩ o = true ∧ (vpure E r n o = some v ∨ (vpure E r n o = none ∧ vread E r n s.h o = some v))) ∨ (vwanted ops ⟨r, n, s.h, d⟩ o = false ∧ v = undefV))) ∨
     (kd o.op = .anchor ∧ s'.p = i + 1 ∧ ∃ h1, s.h.n ≤ h1.n ∧ reserve E q.A (i + 1) q.L h1 s.M = some (s'.h, s'.M) ∧ ((vwanted ops ⟨r, n, s.h, d⟩ o = true ∧ vop E call ⟨r, n, s.h, d⟩ o = some (v, h1)) ∨ (vwanted ops ⟨r, n, s.h, d⟩ o = false ∧ v = undefV ∧ h1 = s.h))) ∨
     (∃ e id, kd o.op = .alloc e ∧ s'.p = s.p ∧ s'.h = s.h ∧ s'.M = s.M ∧ s.M.get i = some id ∧ E.G ≤ id ∧ ((vwanted ops ⟨r, n, s.h, d⟩ o = true ∧ v = .ptr id 0) ∨ (vwanted ops ⟨r, n, s.h, d⟩ o = false ∧ v = undefV)))) := by
  unfold dstep at h
  split at h
  · cases h
  · rename_i b hb
    split at h
    · cases h
    · rename_i r' hr
      split at h
      · rename_i hk
        split at h
        · cases h
        · rename_i v' hv
          cases h
          refine ⟨b, hb, hr, rfl, .inl ⟨hk, rfl, rfl, rfl, ?_⟩⟩
          cases hw : vwanted ops ⟨r, n, s.h, d⟩ o with
          | false => rw [hw] at hv; cases hv; exact .inr ⟨rfl, rfl⟩
          | true =>
            rw [hw] at hv
            simp only [cond_true] at hv
            split at hv
            · rename_i u hu; cases hv; exact .inl ⟨rfl, .inl hu⟩
            · rename_i hu; exact .inl ⟨rfl, .inr ⟨hu, hv⟩⟩
      · rename_i hk
        split at h
        · cases h
        · rename_i v' h1 hv
          cases hle : Nat.ble s.h.n h1.n with
          | false => rw [hle] at h; cases h
          | true =>
            rw [hle] at h
            simp only [cond_true] at h
            split at h
            · cases h
            · rename_i h2 M2 hres
              cases h
              refine ⟨b, hb, hr, rfl, .inr (.inl ⟨hk, rfl, h1, Nat.le_of_ble_eq_true hle, hres, ?_⟩)⟩
              cases hw : vwanted ops ⟨r, n, s.h, d⟩ o with
              | false => rw [hw] at hv; cases hv; exact .inr ⟨rfl, rfl, rfl⟩
              | true => rw [hw] at hv; exact .inl ⟨rfl, hv⟩
      · rename_i e hk
        split at h
        · cases h
        · rename_i id hid
          cases hG : Nat.ble E.G id with
          | false => rw [hG] at h; cases h
          | true =>
          rw [hG] at h
          simp only [cond_true] at h
          have hG := Nat.le_of_ble_eq_true hG
          cases hw : vwanted ops ⟨r', n, s.h, d⟩ o with
          | false =>
            rw [hw] at h; cases h
            exact ⟨b, hb, hr, rfl, .inr (.inr ⟨e, id, hk, rfl, rfl, rfl, hid, hG, .inr ⟨hw, rfl⟩⟩)⟩
          | true =>
            rw [hw] at h; cases h
            exact ⟨b, hb, hr, rfl, .inr (.inr ⟨e, id, hk, rfl, rfl, rfl, hid, hG, .inl ⟨hw, rfl⟩⟩)⟩

variable (pl : Pl E call ops st0 q rs f h0 M0)
include pl

theorem Pl.step {k : Nat} {o : Oper} (ho : ops[k]? = some o) : dstep E call ops q st0.n st0.d k (stAt f rs k) o = some (valAt rs k, rtAt rs k, stAt f rs (k + 1)) := by
  obtain ⟨_, _, _, h4⟩ := draws_at pl.dr
  obtain ⟨c, g1, g2, g3⟩ := h4 k o (by rw [Array.getElem?_toList]; exact ho)
  rw [Nat.zero_add, g2] at g3
  unfold valAt rtAt
  rw [g1]
  exact g3
theorem Pl.first : stAt f rs 0 = ⟨st0.t, 0, h0, M0⟩ := (draws_at pl.dr).2.1
theorem Pl.last : stAt f rs ops.size = f := by
  have := (draws_at pl.dr).2.2.1
  simpa using this

theorem Pl.M0ok : (∀ i id, M0.get i = some id → id < h0.n) ∧ (∀ i j id, M0.get i = some id → M0.get j = some id → i = j) := by
  obtain ⟨_, _, _, h4, h5, _⟩ := reserve_spec pl.res (fun i id h => by cases h) (fun i j id h => by cases h)
  exact ⟨h4, h5⟩

theorem Pl.inv : ∀ k, k ≤ ops.size →
    (∀ i id, (stAt f rs k).M.get i = some id → id < (stAt f rs k).h.n) ∧ (∀ i j id, (stAt f rs k).M.get i = some id → (stAt f rs k).M.get j = some id → i = j) ∧
    (stAt f rs k).p ≤ k ∧ (∀ j, j < k → isA ops j → j < (stAt f rs k).p) ∧ isLev ops (stAt f rs k).p ∧
    (stAt f rs (stAt f rs k).p).p = (stAt f rs k).p ∧ (stAt f rs (stAt f rs k).p).h = (stAt f rs k).h ∧ (stAt f rs (stAt f rs k).p).M = (stAt f rs k).M := by
  intro k
  induction k with
  | zero =>
    intro _
    rw [pl.first]
    exact ⟨pl.M0ok.1, pl.M0ok.2, Nat.le_refl _, fun j h => absurd h (Nat.not_lt_zero _), .inl rfl, by rw [pl.first], by rw [pl.first], by rw [pl.first]⟩
  | succ k ih =>
    intro hk
    obtain ⟨o, ho⟩ := opAt (show k < ops.size by omega)
    obtain ⟨i1, i2, i3, i4, i5, i6, i7, i8⟩ := ih (by omega)
    obtain ⟨b, hb, hr, ht, hcase⟩ := dstep_inv (pl.step ho)
    rcases hcase with ⟨hkd, hp, hh, hM, _⟩ | ⟨hkd, hp, h1, hle, hres, _⟩ | ⟨e, id, hkd, hp, hh, hM, _⟩
    · rw [hp, hh, hM]
      refine ⟨i1, i2, by omega, fun j hj hA => ?_, i5, i6, i7, i8⟩
      by_cases hjk : j = k
      · subst hjk
        obtain ⟨o', ho', hk'⟩ := hA
        rw [ho] at ho'; cases ho'
        rw [hkd] at hk'; cases hk'
      · exact i4 j (by omega) hA
    · obtain ⟨_, _, _, g4, g5, _⟩ := reserve_spec hres (fun i id h => Nat.lt_of_lt_of_le (i1 i id h) hle) i2
      refine ⟨g4, g5, by omega, fun j hj _ => by omega, ?_, by rw [hp, hp], by rw [hp], by rw [hp]⟩
      rw [hp]
      exact .inr ⟨by omega, o, by simpa using ho, hkd⟩
    · rw [hp, hh, hM]
      refine ⟨i1, i2, by omega, fun j hj hA => ?_, i5, i6, i7, i8⟩
      by_cases hjk : j = k
      · subst hjk
        obtain ⟨o', ho', hk'⟩ := hA
        rw [ho] at ho'; cases ho'
        rw [hkd] at hk'; cases hk'
      · exact i4 j (by omega) hA

theorem Pl.Mstep {k : Nat} (hk : k < ops.size) {i id : Nat} (h : (stAt f rs k).M.get i = some id) : (stAt f rs (k + 1)).M.get i = some id := by
  obtain ⟨o, ho⟩ := opAt hk
  obtain ⟨i1, i2, _⟩ := pl.inv k (by omega)
  obtain ⟨b, hb, hr, ht, hcase⟩ := dstep_inv (pl.step ho)
  rcases hcase with ⟨_, _, _, hM, _⟩ | ⟨_, _, h1, hle, hres, _⟩ | ⟨_, _, _, _, _, hM, _⟩
  · rw [hM]; exact h
  · obtain ⟨_, _, g3, _⟩ := reserve_spec hres (fun i id h => Nat.lt_of_lt_of_le (i1 i id h) hle) i2
    exact g3 i id h
  · rw [hM]; exact h

theorem Pl.Mmono {i id : Nat} : ∀ (k j : Nat), k + j ≤ ops.size → (stAt f rs k).M.get i = some id → (stAt f rs (k + j)).M.get i = some id := by
  intro k j
  induction j with
  | zero => intro _ h; exact h
  | succ j ih =>
    intro hk h
    have := pl.Mstep (k := k + j) (by omega) (ih (by omega) h)
    exact this

/-- The heap of a level, its new blocks laid ready. -/
theorem Pl.level {p : Nat} (hl : isLev ops p) (hp : p ≤ ops.size) {x : Nat × Nat × TypeId} (hx : x ∈ q.L) (ha : admis q.A p x.1 x.2.1 = true) :
    (∀ j, j < p → (stAt f rs j).M.get x.1 = none) ∧ ∃ id zs, (stAt f rs p).M.get x.1 = some id ∧ vzero E x.2.2 = some zs ∧ (stAt f rs p).h.at_ id = some (.cells zs x.2.2 false) := by
  rcases hl with rfl | ⟨hpos, o, ho, hk⟩
  · obtain ⟨_, _, _, _, _, _, g⟩ := reserve_spec pl.res (fun i id h => by cases h) (fun i j id h => by cases h)
    obtain ⟨_, id, zs, g1, _, g2, g3⟩ := g x hx ha
    rw [pl.first]
    exact ⟨fun j h => absurd h (Nat.not_lt_zero _), id, zs, g1, g2, g3⟩
  · obtain ⟨p, rfl⟩ : ∃ p', p = p' + 1 := ⟨p - 1, by omega⟩
    rw [Nat.add_sub_cancel] at ho
    obtain ⟨i1, i2, _⟩ := pl.inv p (by omega)
    obtain ⟨b, hb, hr, ht, hcase⟩ := dstep_inv (pl.step ho)
    rcases hcase with ⟨hk', _⟩ | ⟨_, _, h1, hle, hres, _⟩ | ⟨_, _, hk', _⟩
    · rw [hk] at hk'; cases hk'
    · obtain ⟨_, _, _, _, _, _, g⟩ := reserve_spec hres (fun i id h => Nat.lt_of_lt_of_le (i1 i id h) hle) i2
      obtain ⟨g0, id, zs, g1, _, g2, g3⟩ := g x hx ha
      refine ⟨fun j hj => ?_, id, zs, g1, g2, g3⟩
      cases hm : (stAt f rs j).M.get x.1 with
      | none => rfl
      | some id' =>
        have := pl.Mmono j (p - j) (by omega) hm
        rw [show j + (p - j) = p by omega, g0] at this
        cases this
    · rw [hk] at hk'; cases hk'

/-- The temporaries in the order of the text. -/
theorem Pl.tmps : ∀ k, k ≤ ops.size → ∀ x, (∃ j oj, j < k ∧ ops[j]? = some oj ∧ oj.dst = some x ∧ (stAt f rs k).t.get x = some (valAt rs j)) ∨
    ((∀ j oj, j < k → ops[j]? = some oj → oj.dst ≠ some x) ∧ (stAt f rs k).t.get x = st0.t.get x) := by
  intro k
  induction k with
  | zero => intro _ x; rw [pl.first]; exact .inr ⟨fun j _ h => absurd h (Nat.not_lt_zero _), rfl⟩
  | succ k ih =>
    intro hk x
    obtain ⟨o, ho⟩ := opAt (show k < ops.size by omega)
    obtain ⟨b, hb, hr, ht, _⟩ := dstep_inv (pl.step ho)
    rw [ht, setDst_get]
    by_cases hd : o.dst = some x
    · exact .inl ⟨k, o, by omega, ho, hd, by rw [if_pos hd]⟩
    · rw [if_neg hd]
      rcases ih (by omega) x with ⟨j, oj, h1, h2, h3, h4⟩ | ⟨h1, h2⟩
      · exact .inl ⟨j, oj, by omega, h2, h3, h4⟩
      · refine .inr ⟨fun j oj hj hoj => ?_, h2⟩
        by_cases hjk : j = k
        · subst hjk; rw [ho] at hoj; cases hoj; exact hd
        · exact h1 j oj (by omega) hoj

/-- What is before an operation lies before it in the text. -/
theorem Pl.before : ∀ (i : Nat) (o : Oper) (b : Nat), ops[i]? = some o → q.B.get i = some b → ∀ j, bit b j = true → j < i := by
  intro i
  induction i using Nat.strongRecOn with
  | _ i ih =>
    intro o b ho hb j hj
    have hi : i < ops.size := (Array.getElem?_eq_some_iff.1 ho).1
    obtain ⟨b', g1, g2, g3⟩ := pl.prep.B i o ho hi
    rw [hb] at g1; cases g1
    obtain ⟨e, he, h1, h2, h3⟩ := g3 j hj
    rcases h3 with h3 | ⟨be, h3, h4⟩
    · omega
    · obtain ⟨oe, hoe⟩ := opAt (show e.on < ops.size by omega)
      have := ih e.on h2 oe be hoe h3 j h4
      omega
end

/-! ### Amid a region -/
section
variable {E : Env} {call : Inv} {ops : Array Oper} {st0 : St} {q : Prep} {rs : List Rc} {f : S4} {h0 : Hp} {M0 : Tr Nat} {w0 : World}

abbrev lst (listed : Array Bool) (j : Nat) : Bool := listed.getD j false

structure Mid (E : Env) (ops : Array Oper) (st0 : St) (q : Prep) (rs : List Rc) (f : S4) (w0 : World) (σ : Ren) (a : Act) (w : World) (listed : Array Bool) (p : Nat) : Prop where
  sz : listed.size = ops.size
  down : ∀ i o, ops[i]? = some o → lst listed i = true → ∀ e ∈ o.after.toList, bnd e = true → lst listed e.on = true
  lev : isLev ops p
  anch : ∀ j, isA ops j → (lst listed j = true ↔ j < p)
  tsz : a.tmps.size = st0.n
  tm : ∀ x, x < st0.n → (∃ j oj, ops[j]? = some oj ∧ oj.dst = some x ∧ lst listed j = true ∧ RT σ (valAt rs j) (a.tmps.getD x undef)) ∨
    ((∀ j oj, ops[j]? = some oj → oj.dst = some x → lst listed j = false) ∧ RT σ ((st0.t.get x).getD undefV) (a.tmps.getD x undef))
  wr : WR E.G w0 σ (stAt f rs p).h w
  idle : ∀ x ∈ q.L, admis q.A p x.1 x.2.1 = true → lst listed x.1 = false → ∀ id, (stAt f rs p).M.get x.1 = some id → σ id = none
  mr : F2 (fun (D : Nat) (d : Deferred) => ∃ D', σ D = some D' ∧ d = { target := .collected D', args := #[] }) st0.d a.defers
  gr : GR E σ

theorem getD_false_of {listed : Array Bool} {j : Nat} (h : listed.getD j true = false) : j < listed.size ∧ lst listed j = false := by
  unfold lst
  rw [Array.getD_eq_getD_getElem?] at h ⊢
  rcases Nat.lt_or_ge j listed.size with hlt | hge
  · rw [Array.getElem?_eq_getElem hlt] at h ⊢
    exact ⟨hlt, h⟩
  · rw [Array.getElem?_eq_none hge] at h; cases h
theorem getD_true_of {listed : Array Bool} {j : Nat} (hlt : j < listed.size) (h : lst listed j = false) : listed.getD j true = false := by
  unfold lst at h
  rw [Array.getD_eq_getD_getElem?] at h ⊢
  rw [Array.getElem?_eq_getElem hlt] at h ⊢
  exact h
theorem lst_set {listed : Array Bool} {i j : Nat} (hi : i < listed.size) : lst (listed.setIfInBounds i true) j = if j = i then true else lst listed j := by
  unfold lst
  rw [Array.getD_eq_getD_getElem?, Array.getD_eq_getD_getElem?]
  by_cases h : j = i
  · subst h; simp [hi]
  · rw [Array.getElem?_setIfInBounds_ne (Ne.symm h), if_neg h]

variable (pl : Pl E call ops st0 q rs f h0 M0)
include pl

/-- What has come up holds what is before it. -/
theorem Pl.clo {listed : Array Bool} (down : ∀ i o, ops[i]? = some o → lst listed i = true → ∀ e ∈ o.after.toList, bnd e = true → lst listed e.on = true) :
    ∀ (i : Nat) (o : Oper) (b : Nat), ops[i]? = some o → q.B.get i = some b → (∀ e ∈ o.after.toList, bnd e = true → lst listed e.on = true) → ∀ j, bit b j = true → lst listed j = true := by
  intro i
  induction i using Nat.strongRecOn with
  | _ i ih =>
    intro o b ho hb hall j hj
    have hi : i < ops.size := (Array.getElem?_eq_some_iff.1 ho).1
    obtain ⟨b', g1, g2, g3⟩ := pl.prep.B i o ho hi
    rw [hb] at g1; cases g1
    obtain ⟨e, he, h1, h2, h3⟩ := g3 j hj
    have hle := hall e he h1
    rcases h3 with h3 | ⟨be, h3, h4⟩
    · rw [← h3]; exact hle
    · obtain ⟨oe, hoe⟩ := opAt (show e.on < ops.size by omega)
      exact ih e.on h2 oe be hoe h3 (down e.on oe hoe hle) j h4

section ready
variable {σ : Ren} {a : Act} {w : World} {listed : Array Bool} {p : Nat} (md : Mid E ops st0 q rs f w0 σ a w listed p) {i : Nat} {o : Oper} (ho : ops[i]? = some o) (hun : lst listed i = false) (hall : ∀ e ∈ o.after.toList, bnd e = true → lst listed e.on = true)
include md ho hun hall

theorem Pl.adm {b : Nat} (hb : q.B.get i = some b) : admis q.A p i b = true := by
  unfold admis
  rw [List.all_eq_true]
  intro x hx
  obtain ⟨h1, h2, ox, h3, h4, _⟩ := pl.prep.A x hx
  have hA : isA ops x.1 := ⟨ox, h3, h4⟩
  cases hlt : Nat.blt x.1 p with
  | true =>
    simp only [cond_true, Bool.not_eq_true']
    cases hbit : bit x.2 i with
    | false => rfl
    | true =>
      have hl := (md.anch x.1 hA).2 (blt_iff.1 hlt)
      have := pl.clo md.down x.1 ox x.2 h3 h2 (md.down x.1 ox h3 hl) i hbit
      rw [hun] at this; cases this
  | false =>
    simp only [cond_false, Bool.not_eq_true']
    cases hbit : bit b x.1 with
    | false => rfl
    | true =>
      have hl := pl.clo md.down i o b ho hb hall x.1 hbit
      have := (md.anch x.1 hA).1 hl
      rw [blt_iff.2 this] at hlt; cases hlt

/-- What the operation looks at. -/
theorem Pl.look {x : Nat} (hx : x ∈ looks ops o) (hxn : x < st0.n) : RT σ (((rtAt rs i).get x).getD undefV) (a.tmps.getD x undef) := by
  have hi : i < ops.size := (Array.getElem?_eq_some_iff.1 ho).1
  obtain ⟨b, hb, hr, _, _⟩ := dstep_inv (pl.step ho)
  obtain ⟨hget, hsee⟩ := (narrow_spec hr x).1 hx
  rw [hget]
  rcases pl.tmps i (by omega) x with ⟨j, oj, h1, h2, h3, h4⟩ | ⟨h1, h2⟩
  · rw [h4]
    have hW := (pl.prep.Wi x j oj (by omega) h2 h3).1
    have hlj : lst listed j = true := by
      rcases hsee j hW with e | e | ⟨bj, e1, e2⟩
      · omega
      · exact pl.clo md.down i o b ho hb hall j e
      · have := pl.before j oj bj h2 e1 i e2
        omega
    rcases md.tm x hxn with ⟨j', oj', g1, g2, g3, g4⟩ | ⟨g1, _⟩
    · have hW' := (pl.prep.Wi x j' oj' (Array.getElem?_eq_some_iff.1 g1).1 g1 g2).1
      rw [hW] at hW'; cases hW'
      exact g4
    · rw [g1 j oj h2 h3] at hlj; cases hlj
  · rw [h2]
    rcases md.tm x hxn with ⟨j', oj', g1, g2, g3, g4⟩ | ⟨_, g2⟩
    · exfalso
      have hj'N := (Array.getElem?_eq_some_iff.1 g1).1
      have hW' := (pl.prep.Wi x j' oj' hj'N g1 g2).1
      rcases hsee j' hW' with e | e | ⟨bj, e1, e2⟩
      · subst e; rw [hun] at g3; cases g3
      · have := pl.before i o b ho hb j' e
        exact h1 j' oj' this g1 g2
      · have := pl.clo md.down j' oj' bj g1 e1 (md.down j' oj' g1 g3) i e2
        rw [hun] at this; cases this
    · exact g2

/-- The activation, but for what the operation does not look at. -/
def seen (a : Act) (ds : List Nat) : Act := { a with tmps := Array.ofFn (n := a.tmps.size) fun i => if i.1 ∈ ds then a.tmps[i] else undef }

omit pl md ho hun hall in
theorem seen_getD (a : Act) (ds : List Nat) (x : Nat) : (seen a ds).tmps.getD x undef = if x ∈ ds then a.tmps.getD x undef else undef := by
  unfold seen
  simp only
  rw [Array.getD_eq_getD_getElem?, Array.getElem?_ofFn, Array.getD_eq_getD_getElem?]
  by_cases hx : x < a.tmps.size
  · rw [dif_pos hx, Array.getElem?_eq_getElem hx]
    rfl
  · rw [dif_neg hx, Array.getElem?_eq_none (by omega)]
    simp

theorem Pl.seenTR : TR σ (rtAt rs i) st0.n (seen a (looks ops o)).tmps := by
  obtain ⟨b, hb, hr, _, _⟩ := dstep_inv (pl.step ho)
  refine ⟨by simp [seen, md.tsz], fun x hx => ?_⟩
  rw [seen_getD]
  by_cases hm : x ∈ looks ops o
  · rw [if_pos hm]; exact pl.look md ho hun hall hm hx
  · rw [if_neg hm, (narrow_spec hr x).2 hm]; exact RT.undef _
end ready

omit pl in
theorem seen_eval (a : Act) {o : Oper} {x : Operand} (hx : x ∈ o.op.operands) : a.eval x = (seen a (looks ops o)).eval x := by
  cases x with
  | tmp t =>
    show a.tmps.getD t undef = (seen a (looks ops o)).tmps.getD t undef
    rw [seen_getD, if_pos]
    exact List.mem_append_left _ (List.mem_filterMap.2 ⟨.tmp t, by simpa using hx, rfl⟩)
  | _ => rfl

omit pl in
theorem seen_yielded (a : Act) {o : Oper} {g : Nat} {b : Bool} (hg : o.guard = some (g, b)) : yielded ops a.tmps g = yielded ops (seen a (looks ops o)).tmps g := by
  unfold yielded
  cases hog : ops[g]? with
  | none => simp
  | some og =>
    simp only [Option.bind_some]
    cases hd : og.dst with
    | none => simp
    | some d =>
      simp only [Option.bind_some]
      have hm : d ∈ looks ops o := by
        refine List.mem_append_right _ ?_
        rw [hg]
        simp [hog, hd]
      have h1 : a.tmps[d]? = (seen a (looks ops o)).tmps[d]? := by
        unfold seen
        simp only
        rw [Array.getElem?_ofFn]
        by_cases hx : d < a.tmps.size
        · rw [dif_pos hx, Array.getElem?_eq_getElem hx]
          simp [hm]
        · rw [dif_neg hx, Array.getElem?_eq_none (Nat.le_of_not_lt hx)]
      rw [h1]

omit pl in
theorem seen_wanted (a : Act) (o : Oper) : Region.wanted o (yielded ops a.tmps) = Region.wanted o (yielded ops (seen a (looks ops o)).tmps) := by
  unfold Region.wanted
  cases hg : o.guard with
  | none => rfl
  | some p =>
    obtain ⟨g, b⟩ := p
    simp only [seen_yielded a hg]

omit pl in
theorem Mid.put {σ σ' : Ren} {a : Act} {w w' : World} {listed : Array Bool} {p p' : Nat} (md : Mid E ops st0 q rs f w0 σ a w listed p) {i : Nat} {o : Oper} (ho : ops[i]? = some o) (hall : ∀ e ∈ o.after.toList, bnd e = true → lst listed e.on = true)
    (hdn : ∀ d, o.dst = some d → d < st0.n) (hle : Ren.le σ σ') (wr' : WR E.G w0 σ' (stAt f rs p').h w') (hlev : isLev ops p') (hanch : ∀ j, isA ops j → ((j = i ∨ lst listed j = true) ↔ j < p'))
    (hidle : ∀ x ∈ q.L, admis q.A p' x.1 x.2.1 = true → x.1 ≠ i → lst listed x.1 = false → ∀ id, (stAt f rs p').M.get x.1 = some id → σ' id = none) {v' : Value} (hv : RT σ' (valAt rs i) v')
    (hone : ∀ j oj d, ops[j]? = some oj → oj.dst = some d → o.dst = some d → j = i) :
    Mid E ops st0 q rs f w0 σ' (a.put o.dst v') w' (listed.setIfInBounds i true) p' := by
  have hi : i < ops.size := (Array.getElem?_eq_some_iff.1 ho).1
  have hil : i < listed.size := by rw [md.sz]; exact hi
  refine ⟨by simp [md.sz], fun j oj hj hl e he hb => ?_, hlev, fun j hj => ?_, ?_, fun x hx => ?_, wr', fun x hx ha hl id hid => ?_, ?_, md.gr.mono hle⟩
  · rw [lst_set hil] at hl ⊢
    by_cases hji : j = i
    · subst hji
      rw [ho] at hj; cases hj
      have := hall e he hb
      split
      · rfl
      · exact this
    · rw [if_neg hji] at hl
      have := md.down j oj hj hl e he hb
      split
      · rfl
      · exact this
  · rw [lst_set hil, ← hanch j hj]
    by_cases hji : j = i
    · simp [hji]
    · simp [hji]
  · cases hd : o.dst with
    | none => simpa [Act.put] using md.tsz
    | some d => simpa [Act.put] using md.tsz
  · by_cases hd : o.dst = some x
    · refine .inl ⟨i, o, ho, hd, by rw [lst_set hil, if_pos rfl], ?_⟩
      rw [hd]
      have : (a.put (some x) v').tmps.getD x undef = v' := by
        show (a.tmps.setIfInBounds x v').getD x undef = v'
        rw [Array.getD_eq_getD_getElem?]
        simp [md.tsz, hx]
      rw [this]; exact hv
    · have hsame : (a.put o.dst v').tmps.getD x undef = a.tmps.getD x undef := by
        cases hd' : o.dst with
        | none => rfl
        | some d =>
          show (a.tmps.setIfInBounds d v').getD x undef = _
          rw [Array.getD_eq_getD_getElem?, Array.getD_eq_getD_getElem?, Array.getElem?_setIfInBounds_ne (fun e => hd (by rw [hd', e]))]
      rw [hsame]
      rcases md.tm x hx with ⟨j, oj, g1, g2, g3, g4⟩ | ⟨g1, g2⟩
      · refine .inl ⟨j, oj, g1, g2, ?_, g4.mono hle⟩
        rw [lst_set hil]
        split
        · rfl
        · exact g3
      · refine .inr ⟨fun j oj hj hdj => ?_, g2.mono hle⟩
        rw [lst_set hil, if_neg]
        · exact g1 j oj hj hdj
        · intro hji
          subst hji
          rw [ho] at hj; cases hj
          exact hd hdj
  · rw [lst_set hil] at hl
    by_cases hxi : x.1 = i
    · rw [if_pos hxi] at hl; cases hl
    · rw [if_neg hxi] at hl
      exact hidle x hx ha hxi hl id hid
  · have := md.mr.mono (R' := fun (D : Nat) (d : Deferred) => ∃ D', σ' D = some D' ∧ d = { target := .collected D', args := #[] }) fun D d ⟨D', h1, h2⟩ => ⟨D', (hle _ _ h1).1, h2⟩
    cases o.dst <;> exact this

/-- All has come up. -/
theorem Pl.fin {σ : Ren} {a : Act} {w : World} {listed : Array Bool} {p : Nat} (md : Mid E ops st0 q rs f w0 σ a w listed p) (hr : Region.ready .any ops listed = []) : SR E w0 σ ⟨f.t, st0.n, f.h, st0.d⟩ a w := by
  have hall : ∀ i, i < ops.size → lst listed i = true := by
    intro i
    induction i using Nat.strongRecOn with
    | _ i ih =>
      intro hi
      cases hl : lst listed i with
      | true => rfl
      | false =>
        exfalso
        obtain ⟨o, ho⟩ := opAt hi
        obtain ⟨b, g1, g2, g3⟩ := pl.prep.B i o ho hi
        have : i ∈ Region.ready .any ops listed := mem_ready.2 ⟨getD_true_of (by rw [md.sz]; exact hi) hl, o, ho, fun e he hb => by
          rw [bnd_binds] at hb
          have hlt := g2 e (by simpa using he) hb
          exact ih e.on hlt (by omega)⟩
        rw [hr] at this
        cases this
  have hone : ∀ (j j' : Nat) (oj oj' : Oper) (x : Nat), ops[j]? = some oj → ops[j']? = some oj' → oj.dst = some x → oj'.dst = some x → j = j' := fun j j' oj oj' x h1 h2 h3 h4 => by
    have e1 := (pl.prep.Wi x j oj (Array.getElem?_eq_some_iff.1 h1).1 h1 h3).1
    have e2 := (pl.prep.Wi x j' oj' (Array.getElem?_eq_some_iff.1 h2).1 h2 h4).1
    rw [e1] at e2; cases e2; rfl
  obtain ⟨_, _, i3, i4, i5, _, i7, _⟩ := pl.inv ops.size (Nat.le_refl _)
  have hp : (stAt f rs ops.size).p = p := by
    apply Nat.le_antisymm
    · rcases i5 with h | ⟨h1, h2⟩
      · omega
      · obtain ⟨o2, ho2, _⟩ := h2
        have := (md.anch _ ⟨o2, ho2, by assumption⟩).1 (hall _ (Array.getElem?_eq_some_iff.1 ho2).1)
        omega
    · rcases md.lev with h | ⟨h1, h2⟩
      · omega
      · have h2' := h2
        obtain ⟨o2, ho2, _⟩ := h2
        have := i4 (p - 1) (Array.getElem?_eq_some_iff.1 ho2).1 h2'
        omega
  have hheap : (stAt f rs p).h = f.h := by
    rw [hp] at i7
    rw [i7, pl.last]
  refine ⟨hheap ▸ md.wr, ⟨md.tsz, fun x hx => ?_⟩, md.mr, md.gr⟩
  have ht := pl.tmps ops.size (Nat.le_refl _) x
  rw [pl.last] at ht
  show RT σ ((f.t.get x).getD undefV) _
  rcases md.tm x hx with ⟨j, oj, g1, g2, g3, g4⟩ | ⟨g1, g2⟩
  · rcases ht with ⟨j', oj', k1, k2, k3, k4⟩ | ⟨k1, _⟩
    · rw [k4, hone j' j oj' oj x k2 g1 k3 g2]; exact g4
    · exact absurd g2 (k1 j oj (Array.getElem?_eq_some_iff.1 g1).1 g1)
  · rcases ht with ⟨j', oj', k1, k2, k3, k4⟩ | ⟨_, k2⟩
    · have := g1 j' oj' k2 k3
      rw [hall j' k1] at this; cases this
    · rw [k2]; exact g2

omit pl in
theorem pure_plain {t : Tr V} {n : Nat} {h : Hp} {o : Oper} {v : V} (e : vpure E t n o = some v ∨ vread E t n h o = some v) : isDefer o.op = false ∧ ∀ cs b, o.op ≠ .select cs b := by
  unfold vpure vread at e
  cases ho : o.op <;> rw [ho] at e <;> first
    | (rcases e with e | e <;> cases e; done)
    | exact ⟨rfl, fun cs b h => by cases h⟩
omit pl in
theorem anchor_plain {op : Op} (e : kd op = .anchor) : isDefer op = false ∧ ∀ cs b, op ≠ .select cs b := by
  cases op <;> first
    | (cases e; done)
    | exact ⟨rfl, fun cs b h => by cases h⟩
omit pl in
theorem kd_alloc {op : Op} {e : TypeId} (h : kd op = .alloc e) : op = .alloc e := by
  cases op <;> simp only [kd] at h <;> first
    | (cases h; rfl)
    | (split at h <;> cases h)
    | cases h

/-- What a mover answers, wherever it comes up. -/
theorem Pl.mover {σ : Ren} {a : Act} {w : World} {listed : Array Bool} {p : Nat} (md : Mid E ops st0 q rs f w0 σ a w listed p) {i : Nat} {o : Oper} (ho : ops[i]? = some o) (hun : lst listed i = false) (hall : ∀ e ∈ o.after.toList, bnd e = true → lst listed e.on = true)
    (hk : kd o.op = .mover) (hw : vwanted ops ⟨rtAt rs i, st0.n, (stAt f rs i).h, st0.d⟩ o = true) (hv : vpure E (rtAt rs i) st0.n o = some (valAt rs i) ∨ (vpure E (rtAt rs i) st0.n o = none ∧ vread E (rtAt rs i) st0.n (stAt f rs i).h o = some (valAt rs i))) :
    isDefer o.op = false ∧ ∃ v', (execOp a.eval o).run E.P w = .ok (.value v') w ∧ RT σ (valAt rs i) v' := by
  have hi : i < ops.size := (Array.getElem?_eq_some_iff.1 ho).1
  have hTR := pl.seenTR md ho hun hall
  obtain ⟨hd, hsel⟩ := pure_plain (h := (stAt f rs i).h) (hv.imp id (·.2))
  refine ⟨hd, ?_⟩
  rw [execOp_congr o hsel (fun x hx => seen_eval a hx)]
  rcases hv with hv | ⟨hv0, hv⟩
  · obtain ⟨v', h1, h2⟩ := vpure_sound hTR md.gr hv
    exact ⟨v', h1 w, h2⟩
  · obtain ⟨_, _, _, _, i5, _, i7, _⟩ := pl.inv i (by omega)
    have key : vread E (rtAt rs i) st0.n (stAt f rs p).h o = some (valAt rs i) := by
      by_cases hp : p = (stAt f rs i).p
      · rw [hp, i7]; exact hv
      · rcases pl.ck with hA | hck
        · exfalso
          have none : ∀ j, ¬ isA ops j := fun j ⟨o', ho', hk'⟩ => by
            obtain ⟨b, hb⟩ := pl.prep.Ac j o' (Array.getElem?_eq_some_iff.1 ho').1 ho' hk'
            rw [hA] at hb; cases hb
          rcases md.lev with h1 | ⟨_, h1⟩
          · rcases i5 with h2 | ⟨_, h2⟩
            · exact hp (by rw [h1, h2])
            · exact none _ h2
          · exact none _ h1
        · obtain ⟨_, _, _, h4⟩ := draws_at pl.dr
          obtain ⟨c, g1, g2, _⟩ := h4 i o (by rw [Array.getElem?_toList]; exact ho)
          obtain ⟨b, g3, g4⟩ := chk_at hck i o c (by rw [Array.getElem?_toList]; exact ho) g1 hk
          rw [Nat.zero_add] at g3 g4
          have hcv : c.v = valAt rs i := by unfold valAt; rw [g1]; rfl
          have hcr : c.r = rtAt rs i := by unfold rtAt; rw [g1]; rfl
          have hmem : (p, (stAt f rs p).h) ∈ ((0, h0) :: q.A.map fun x => (x.1 + 1, (stAt f rs (x.1 + 1)).h)) := by
            rcases md.lev with h1 | ⟨h0', h1⟩
            · rw [h1, pl.first]; exact List.mem_cons_self ..
            · obtain ⟨o', ho', hk'⟩ := h1
              obtain ⟨b', hb'⟩ := pl.prep.Ac (p - 1) o' (Array.getElem?_eq_some_iff.1 ho').1 ho' hk'
              refine List.mem_cons_of_mem _ (List.mem_map.2 ⟨_, hb', ?_⟩)
              show (p - 1 + 1, (stAt f rs (p - 1 + 1)).h) = _
              rw [show p - 1 + 1 = p by omega]
          have := g4 _ hmem
          unfold chkAt at this
          have hbeq : Nat.beq p c.s.p = false := by
            cases hh : Nat.beq p c.s.p with
            | false => rfl
            | true => exact absurd (beq_iff.1 hh) (by rw [g2]; exact hp)
          simp only [hbeq, cond_false, pl.adm md ho hun hall g3, cond_true, hcr, hcv] at this
          rw [g2, hw] at this
          simp only [cond_true, hv0] at this
          split at this
          · rename_i v1 hv1
            rw [hv1, veq_eq this]
          · cases this
    exact vread_sound md.wr hTR md.gr key

/-- **WHATEVER THE ORDER.** -/
theorem Pl.any (hc : CallOK E w0 call) {ro : Option Nat} {m : Nat} {Q : Exit → Act → World → Prop} {σ0 : Ren} (hQ : ∀ (σ' : Ren) (a' : Act) (w' : World), Ren.le σ0 σ' → SR E w0 σ' ⟨f.t, st0.n, f.h, st0.d⟩ a' w' → Q .normal a' w') :
    ∀ (fuel : Nat) (listed : Array Bool) (p : Nat) (σ : Ren) (a : Act) (w : World), Ren.le σ0 σ → Mid E ops st0 q rs f w0 σ a w listed p → listed.toList.count false ≤ fuel → wpAnyIn (FF ro) m E.P .any ops Q fuel listed a w := by
  intro fuel
  induction fuel with
  | zero =>
    intro listed p σ a w h0 md hn
    have hr : Region.ready .any ops listed = [] := by
      apply List.eq_nil_iff_forall_not_mem.2
      intro i hi
      obtain ⟨h1, _⟩ := mem_ready.1 hi
      obtain ⟨h2, h3⟩ := getD_false_of h1
      have hc0 : listed.toList.count false = 0 := by omega
      have := List.count_eq_zero.1 hc0
      apply this
      unfold lst at h3
      rw [Array.getD_eq_getD_getElem?, Array.getElem?_eq_getElem h2] at h3
      have h4 : listed[i] = false := h3
      rw [← h4]
      simp
    exact ⟨hr, hQ σ a w h0 (pl.fin md hr)⟩
  | succ fuel ih =>
    intro listed p σ a w hle0 md hn
    refine ⟨fun hr => hQ σ a w hle0 (pl.fin md hr), fun i hi => ?_⟩
    obtain ⟨h1, o, ho, h3⟩ := mem_ready.1 hi
    obtain ⟨hil, hun⟩ := getD_false_of h1
    have hiN : i < ops.size := by rw [← md.sz]; exact hil
    have hall : ∀ e ∈ o.after.toList, bnd e = true → lst listed e.on = true := fun e he hb => h3 e (by simpa using he) (by rw [bnd_binds]; exact hb)
    have hTR := pl.seenTR md ho hun hall
    have hcount : (listed.setIfInBounds i true).toList.count false ≤ fuel := by
      rw [Array.toList_setIfInBounds, List.count_set (by simpa using hil)]
      have h4 : listed.toList[i]'(by simpa using hil) = false := by
        unfold lst at hun
        rw [Array.getD_eq_getD_getElem?, Array.getElem?_eq_getElem hil] at hun
        simpa using hun
      rw [h4]
      simp
      have := hn
      simp at this
      omega
    have hdn : ∀ d, o.dst = some d → d < st0.n := fun d hd => (pl.prep.Wi d i o hiN ho hd).2
    have hone : ∀ j oj d, ops[j]? = some oj → oj.dst = some d → o.dst = some d → j = i := fun j oj d g1 g2 g3 => by
      have e1 := (pl.prep.Wi d j oj (Array.getElem?_eq_some_iff.1 g1).1 g1 g2).1
      have e2 := (pl.prep.Wi d i o hiN ho g3).1
      rw [e1] at e2; cases e2; rfl
    obtain ⟨b, hb, hr, ht, hcase⟩ := dstep_inv (pl.step ho)
    have hadm := pl.adm md ho hun hall hb
    have hwq : Region.wanted o (yielded ops a.tmps) = vwanted ops ⟨rtAt rs i, st0.n, (stAt f rs i).h, st0.d⟩ o := by
      rw [seen_wanted a o]
      exact vwanted_eq (st := ⟨rtAt rs i, st0.n, (stAt f rs i).h, st0.d⟩) hTR o
    -- the level stays
    have stay : kd o.op ≠ .anchor → ∀ (σ' : Ren) (w' : World) (v' : Value), Ren.le σ σ' → WR E.G w0 σ' (stAt f rs p).h w' → RT σ' (valAt rs i) v' →
        (∀ x ∈ q.L, admis q.A p x.1 x.2.1 = true → x.1 ≠ i → lst listed x.1 = false → ∀ id, (stAt f rs p).M.get x.1 = some id → σ' id = none) →
        wpAnyIn (FF ro) m E.P .any ops Q fuel (listed.setIfInBounds i true) (a.put o.dst v') w' := by
      intro hna σ' w' v' hle hwr hrt hid
      refine ih _ p σ' _ _ (Ren.le_trans hle0 hle) (md.put ho hall hdn hle hwr md.lev (fun j hj => ?_) hid hrt hone) hcount
      rw [← md.anch j hj]
      constructor
      · rintro (h | h)
        · subst h
          obtain ⟨o', ho', hk'⟩ := hj
          rw [ho] at ho'; cases ho'
          exact absurd hk' hna
        · exact h
      · exact .inr
    unfold wpOpIn
    rw [ho]
    simp only []
    rw [hwq]
    rcases hcase with ⟨hkd, _, _, _, hval⟩ | ⟨hkd, hp', h1', hle', hres, hval⟩ | ⟨e, id, hkd, _, _, _, hid, hGid, hval⟩
    · have hna : kd o.op ≠ .anchor := by rw [hkd]; exact fun h => by cases h
      rcases hval with ⟨hw, hv⟩ | ⟨hw, hv⟩
      · rw [if_pos hw]
        obtain ⟨hd, v', hrun, hrt⟩ := pl.mover md ho hun hall hkd hw hv
        have hsem : o.semAt (FF ro).round a.eval = execOp a.eval o := Oper.semAt_eq _ _ o fun c hc => by rw [hc] at hd; cases hd
        refine ⟨fun g _ => FF_fn ro g, ?_⟩
        rw [hsem, hrun]
        exact stay hna σ w v' (Ren.le_refl _) md.wr hrt fun x hx ha hxi hl id hid => md.idle x hx ha hl id hid
      · rw [if_neg (by rw [hw]; simp)]
        refine ⟨fun g _ => FF_fn ro g, ?_⟩
        exact stay hna σ w undef (Ren.le_refl _) md.wr (by rw [hv]; exact RT.undef _) fun x hx ha hxi hl id hid => md.idle x hx ha hl id hid
    · -- an anchor
      have hA : isA ops i := ⟨o, ho, hkd⟩
      obtain ⟨j1, j2, j3, j4, j5, j6, j7, j8⟩ := pl.inv i (by omega)
      have hpi : p ≤ i := by
        rcases Nat.lt_or_ge i p with h | h
        · have := (md.anch i hA).2 h; rw [hun] at this; cases this
        · exact h
      have hafter : ∀ j, isA ops j → i < j → lst listed j = false := by
        intro j hj hlt
        cases hl : lst listed j with
        | false => rfl
        | true =>
          exfalso
          obtain ⟨oj, hoj, hkj⟩ := hj
          have hjN := (Array.getElem?_eq_some_iff.1 hoj).1
          obtain ⟨bj, hbj⟩ := pl.prep.Ac j oj hjN hoj hkj
          obtain ⟨bi, hbi⟩ := pl.prep.Ac i o hiN ho hkd
          have hbit := pl.prep.Ao _ hbj _ hbi hlt
          have hB := (pl.prep.A _ hbj).2.1
          have := pl.clo md.down j oj bj hoj hB (md.down j oj hoj hl) i hbit
          rw [hun] at this; cases this
      have hbefore : ∀ j, isA ops j → j < i → lst listed j = true := by
        intro j hj hlt
        obtain ⟨oj, hoj, hkj⟩ := hj
        have hjN := (Array.getElem?_eq_some_iff.1 hoj).1
        obtain ⟨bj, hbj⟩ := pl.prep.Ac j oj hjN hoj hkj
        obtain ⟨bi, hbi⟩ := pl.prep.Ac i o hiN ho hkd
        have hbit := pl.prep.Ao _ hbi _ hbj hlt
        have hB := (pl.prep.A _ hbi).2.1
        exact pl.clo md.down i o bi ho hB hall j hbit
      have hpp : (stAt f rs i).p = p := by
        apply Nat.le_antisymm
        · rcases j5 with h | ⟨h, hj⟩
          · omega
          · have hj' := hj
            have : (stAt f rs i).p - 1 < i := by omega
            have := (md.anch _ hj').1 (hbefore _ hj' this)
            omega
        · rcases md.lev with h | ⟨h, hj⟩
          · omega
          · have := j4 (p - 1) (by omega) hj
            omega
      have hheap : (stAt f rs i).h = (stAt f rs p).h := by rw [hpp] at j7; exact j7.symm
      obtain ⟨r1, r2, r3, r4, r5, r6, r7⟩ := reserve_spec hres (fun x id h => Nat.lt_of_lt_of_le (j1 x id h) hle') j2
      have next : ∀ (σ' : Ren) (w' : World) (v' : Value), Ren.le σ σ' → WR E.G w0 σ' h1' w' → RT σ' (valAt rs i) v' →
          wpAnyIn (FF ro) m E.P .any ops Q fuel (listed.setIfInBounds i true) (a.put o.dst v') w' := by
        intro σ' w' v' hle hwr hrt
        refine ih _ (i + 1) σ' _ _ (Ren.le_trans hle0 hle) (md.put ho hall hdn hle (r1 w0 σ' w' hwr) (.inr ⟨by omega, by rw [Nat.add_sub_cancel]; exact hA⟩) (fun j hj => ?_) (fun x hx ha hxi hl id hid => ?_) hrt hone) hcount
        · constructor
          · rintro (h | h)
            · omega
            · rcases Nat.lt_or_ge i j with h' | h'
              · rw [hafter j hj h'] at h; cases h
              · omega
          · intro h
            by_cases hji : j = i
            · exact .inl hji
            · exact .inr (hbefore j hj (by omega))
        · obtain ⟨_, id', _, g1, g2, _⟩ := r7 x hx ha
          rw [hid] at g1; cases g1
          exact hwr.fresh id g2
      rcases hval with ⟨hw, hv⟩ | ⟨hw, hv, hh⟩
      · rw [if_pos hw]
        obtain ⟨hd, hsel⟩ := anchor_plain hkd
        have hsr : SR E w0 σ ⟨rtAt rs i, st0.n, (stAt f rs i).h, st0.d⟩ (seen a (looks ops o)) w := ⟨hheap ▸ md.wr, hTR, md.mr, md.gr⟩
        exact vop_wp hc hsr hd hv (execOp_congr o hsel (fun x hx => seen_eval a hx)) fun v' w' σ' hle hwr hrt => next σ' w' v' hle hwr hrt
      · rw [if_neg (by rw [hw]; simp)]
        refine ⟨fun g _ => FF_fn ro g, ?_⟩
        exact next σ w undef (Ren.le_refl _) (by rw [hh, hheap]; exact md.wr) (by rw [hv]; exact RT.undef _)
    · -- a new block
      have hna : kd o.op ≠ .anchor := by rw [hkd]; exact fun h => by cases h
      rcases hval with ⟨hw, hv⟩ | ⟨hw, hv⟩
      · rw [if_pos hw]
        have hop := kd_alloc hkd
        obtain ⟨b', hb'⟩ := pl.prep.Lc i o e hiN ho hkd
        have hb'' := (pl.prep.L _ hb').2.1
        rw [hb] at hb''
        cases hb''
        have hpN : p ≤ ops.size := by
          rcases md.lev with h | ⟨h, oj, hoj, _⟩
          · omega
          · have := (Array.getElem?_eq_some_iff.1 hoj).1; omega
        obtain ⟨g0, id', zs, g1, g2, g3⟩ := pl.level md.lev hpN hb' hadm
        have hpi : p ≤ i := by
          rcases Nat.lt_or_ge i p with h | h
          · have := g0 i h
            simp only at this
            rw [hid] at this; cases this
          · exact h
        have hidd : id' = id := by
          have := pl.Mmono p (i - p) (by omega) g1
          rw [show p + (i - p) = i by omega] at this
          simp only at this
          rw [hid] at this
          cases this; rfl
        subst hidd
        simp only at g1 g2 g3
        have hnone := md.idle _ hb' hadm hun id' g1
        have hinv := pl.inv p hpN
        obtain ⟨z, hzr, hzc⟩ := vzero_rel σ g2
        obtain ⟨r', hle⟩ := md.wr.wake hGid hnone (hinv.1 _ _ g1) g3 hzc
        have hd : isDefer o.op = false := by rw [hop]; rfl
        have hsem : o.semAt (FF ro).round a.eval = execOp a.eval o := Oper.semAt_eq _ _ o fun c hc => by rw [hc] at hd; cases hd
        have hrun : (execOp a.eval o).run E.P w = .ok (.value (.pointer (some ⟨w.heap.size, 0, none⟩))) (w.alloc (.cells z.cells e)) := by
          simp only [execOp, hop, Instr.alloc, Sem.run_bind, hzr, Result.andThen_ok, newVar, newRow, run_newObj, Sem.run_pure, World.alloc_eq]
        refine ⟨fun g _ => FF_fn ro g, ?_⟩
        rw [hsem, hrun]
        refine stay hna _ _ _ hle r' (by rw [hv]; exact .val (.cell (.leaf (.ptr (Ren.upd_same _ _ _ _))))) fun x hx ha hxi hl id2 hid2 => ?_
        rw [Ren.upd_other _ _ _ (fun heq => hxi (hinv.2.1 x.1 i id2 hid2 (by rw [heq]; exact g1)))]
        exact md.idle x hx ha hl id2 hid2
      · rw [if_neg (by rw [hw]; simp)]
        refine ⟨fun g _ => FF_fn ro g, ?_⟩
        exact stay hna σ w undef (Ren.le_refl _) md.wr (by rw [hv]; exact RT.undef _) fun x hx ha hxi hl id hid => md.idle x hx ha hl id hid
end

/-- A region, its order drawn. -/
theorem vdraw_wp {E : Env} {w0 : World} {call : Inv} (hm : E.P.follows .mixedOrders = true) (hc : CallOK E w0 call) {σ : Ren} {st st' : St} {a : Act} {w : World} {id : Nat} {ops : Array Oper} {ro : Option Nat} {m : Nat} {Q : Exit → Act → World → Prop}
    (e : vdraw E call ops st = some st') (s : SR E w0 σ st a w) (hQ : ∀ (σ' : Ren) (a' : Act) (w' : World), Ren.le σ σ' → SR E w0 σ' st' a' w' → Q .normal a' w') : (Code.region id ops true).wpIn (FF ro) m E.P Q a w := by
  unfold vdraw at e
  split at e
  · cases e
  · rename_i q hq
    split at e
    · cases e
    · rename_i h0 M0 hres
      split at e
      · cases e
      · rename_i rs f hdr
        cases hck : chkAll E ops q st.n st.d h0 rs f with
        | false => rw [hck] at e; cases e
        | true =>
          rw [hck] at e
          cases e
          have prep : PrepOK (fun j => ops[j]?) st.n ops.size q := by
            have := prep_spec (f := fun j => ops[j]?) (N := 0) (fun k hk => by rw [Nat.zero_add, Array.getElem?_toList]) hq (prepOK_zero _ _)
            simpa using this
          have pl : Pl E call ops st q rs f h0 M0 := ⟨prep, hres, hdr, by
            unfold chkAll at hck
            split at hck
            · rename_i hA; exact .inl hA
            · exact .inr hck⟩
          obtain ⟨r1, _, _, _, _, _, r7⟩ := reserve_spec hres (fun i id h => by cases h) (fun i j id h => by cases h)
          have hlst : ∀ j, lst (Array.replicate ops.size false) j = false := fun j => by
            unfold lst
            rw [Array.getD_eq_getD_getElem?, Array.getElem?_replicate]
            split <;> rfl
          refine wpIn_region_any hm (pl.any hc (σ0 := σ) hQ ops.size _ 0 σ a _ (Ren.le_refl _) ?_ ?_)
          · refine ⟨by simp, fun i o _ hl => ?_, .inl rfl, fun j _ => ?_, s.tr.size, fun x hx => .inr ⟨fun j oj _ _ => hlst j, s.tr.at_ x hx⟩, ?_, fun x hx ha _ id hid => ?_, s.mr, s.gr⟩
            · rw [hlst] at hl; cases hl
            · rw [hlst]; simp
            · rw [pl.first]; exact (r1 w0 σ w s.wr).drewn
            · obtain ⟨_, id', _, g1, g2, _⟩ := r7 x hx ha
              rw [pl.first] at hid
              simp only at hid
              rw [hid] at g1; cases g1
              exact s.wr.fresh id g2
          · simp
end
end Go.Proofs.YtmlfcaaecofnjaaGreatDoor.AM
