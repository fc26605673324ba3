/- A region that draws its order of evaluation: the evaluator's own laws. -/
import Derived.Test.YtmlfcaaecofnjaaGreatDoorSmB
set_option linter.unusedVariables false
set_option linter.unusedSimpArgs false
namespace Go.Proofs.YtmlfcaaecofnjaaGreatDoor.SM
open Go Go.RowKit
noncomputable section

theorem bit_testBit (m n : Nat) : bit m n = m.testBit n := by
  rw [Nat.testBit_eq_decide_div_mod_eq]
  unfold bit
  have h : Nat.land (Nat.shiftRight m n) 1 = m / 2 ^ n % 2 := by
    have h1 : Nat.land (Nat.shiftRight m n) 1 = (m >>> n) &&& 1 := rfl
    rw [h1, Nat.and_one_is_mod, Nat.shiftRight_eq_div_pow]
  rw [h]
  by_cases e : m / 2 ^ n % 2 = 1
  · rw [e]; rfl
  · rw [decide_eq_false e]
    cases hb : Nat.beq (m / 2 ^ n % 2) 1 with
    | false => rfl
    | true => exact absurd (beq_iff.1 hb) e
theorem bit_lor (a b k : Nat) : bit (Nat.lor a b) k = (bit a k || bit b k) := by
  rw [bit_testBit, bit_testBit, bit_testBit]
  exact Nat.testBit_or a b k
theorem bit_set (m n k : Nat) : bit (setBit m n) k = true ↔ bit m k = true ∨ k = n := by
  unfold setBit
  rw [bit_lor, bit_testBit (Nat.shiftLeft 1 n)]
  have h : (Nat.shiftLeft 1 n).testBit k = decide (n = k) := by
    have : Nat.shiftLeft 1 n = 2 ^ n := by
      have := Nat.one_shiftLeft n
      exact this
    rw [this, Nat.testBit_two_pow]
  rw [h, Bool.or_eq_true, decide_eq_true_iff]
  exact or_congr Iff.rfl ⟨Eq.symm, Eq.symm⟩
theorem bit_zero (k : Nat) : bit 0 k = false := by rw [bit_testBit]; simp

theorem bnd_binds (e : Edge) : Region.binds .any e = bnd e := by
  unfold Region.binds bnd
  cases e.ground <;> rfl

theorem befOf_spec {B : Tr Nat} {i : Nat} : ∀ {es : List Edge} {acc b : Nat}, befOf B i es acc = some b →
    (∀ e ∈ es, bnd e = true → e.on < i) ∧ (∀ j, bit b j = true → bit acc j = true ∨ ∃ e ∈ es, bnd e = true ∧ e.on < i ∧ (e.on = j ∨ ∃ be, B.get e.on = some be ∧ bit be j = true)) := by
  intro es
  induction es with
  | nil => intro acc b h; cases h; exact ⟨fun _ h => (by cases h), fun j h => .inl h⟩
  | cons e r ih =>
    intro acc b h
    simp only [befOf] at h
    cases hb : bnd e with
    | false =>
      rw [hb] at h
      obtain ⟨h1, h2⟩ := ih h
      refine ⟨fun x hx hbx => ?_, fun j hj => ?_⟩
      · rcases List.mem_cons.1 hx with rfl | hx
        · rw [hb] at hbx; cases hbx
        · exact h1 x hx hbx
      · rcases h2 j hj with h3 | ⟨x, hx, h4⟩
        · exact .inl h3
        · exact .inr ⟨x, List.mem_cons_of_mem _ hx, h4⟩
    | true =>
      rw [hb] at h
      simp only [cond_true] at h
      cases hlt : Nat.blt e.on i with
      | false => rw [hlt] at h; cases h
      | true =>
        have hlt' := blt_iff.1 hlt
        rw [hlt] at h
        simp only [cond_true] at h
        cases hbit : bit acc e.on with
        | true =>
          rw [hbit] at h
          obtain ⟨h1, h2⟩ := ih h
          refine ⟨fun x hx hbx => ?_, fun j hj => ?_⟩
          · rcases List.mem_cons.1 hx with rfl | hx
            · exact hlt'
            · exact h1 x hx hbx
          · rcases h2 j hj with h3 | ⟨x, hx, h4⟩
            · exact .inl h3
            · exact .inr ⟨x, List.mem_cons_of_mem _ hx, h4⟩
        | false =>
          rw [hbit] at h
          simp only [cond_false] at h
          split at h
          · rename_i be hbe
            obtain ⟨h1, h2⟩ := ih h
            refine ⟨fun x hx hbx => ?_, fun j hj => ?_⟩
            · rcases List.mem_cons.1 hx with rfl | hx
              · exact hlt'
              · exact h1 x hx hbx
            · rcases h2 j hj with h3 | ⟨x, hx, h4⟩
              · rw [bit_lor, Bool.or_eq_true, bit_set] at h3
                rcases h3 with (h3 | h3) | h3
                · exact .inl h3
                · exact .inr ⟨e, List.mem_cons_self .., hb, hlt', .inl h3.symm⟩
                · exact .inr ⟨e, List.mem_cons_self .., hb, hlt', .inr ⟨be, hbe, h3⟩⟩
              · exact .inr ⟨x, List.mem_cons_of_mem _ hx, h4⟩
          · cases h

/-- What the table of a region says of its first N operations. -/
structure PrepOK (f : Nat → Option Oper) (n N : Nat) (p : Prep) : Prop where
  B : ∀ j o, f j = some o → j < N → ∃ b, p.B.get j = some b ∧ (∀ e ∈ o.after.toList, bnd e = true → e.on < j) ∧
    (∀ k, bit b k = true → ∃ e ∈ o.after.toList, bnd e = true ∧ e.on < j ∧ (e.on = k ∨ ∃ be, p.B.get e.on = some be ∧ bit be k = true))
  Bn : ∀ j, N ≤ j → p.B.get j = none
  Wi : ∀ d j o, j < N → f j = some o → o.dst = some d → p.W.get d = some j ∧ d < n
  A : ∀ x ∈ p.A, x.1 < N ∧ p.B.get x.1 = some x.2 ∧ ∃ o, f x.1 = some o ∧ kd o.op = .anchor ∧ isDefer o.op = false
  Ac : ∀ j o, j < N → f j = some o → kd o.op = .anchor → ∃ b, (j, b) ∈ p.A
  Ao : ∀ x ∈ p.A, ∀ y ∈ p.A, y.1 < x.1 → bit x.2 y.1 = true
  L : ∀ x ∈ p.L, x.1 < N ∧ p.B.get x.1 = some x.2.1 ∧ ∃ o, f x.1 = some o ∧ kd o.op = .alloc x.2.2
  Lc : ∀ j o e, j < N → f j = some o → kd o.op = .alloc e → ∃ b, (j, b, e) ∈ p.L

theorem prep_spec {n : Nat} {f : Nat → Option Oper} : ∀ {l : List Oper} {N : Nat} {p p' : Prep}, (∀ k, k < l.length → l[k]? = f (N + k)) → prep n l N p = some p' → PrepOK f n N p → PrepOK f n (N + l.length) p' := by
  intro l
  induction l with
  | nil => intro N p p' _ h ok; cases h; exact ok
  | cons o r ih =>
    intro N p p' hl h ok
    have ho : f N = some o := by have := hl 0 (by simp); simpa using this.symm
    have hl' : ∀ k, k < r.length → r[k]? = f (N + 1 + k) := fun k hk => by
      have := hl (k + 1) (by simpa using hk)
      rw [show N + 1 + k = N + (k + 1) by omega]
      simpa using this
    simp only [prep] at h
    split at h
    · cases h
    · rename_i b hb
      obtain ⟨hb1, hb2⟩ := befOf_spec hb
      split at h
      · cases h
      · rename_i W hW
        have hBget : ∀ j, (p.B.set N b).get j = if j = N then some b else p.B.get j := fun j => Tr.get_set ..
        have hB : ∀ j o, f j = some o → j < N + 1 → ∃ b', (p.B.set N b).get j = some b' ∧ (∀ e ∈ o.after.toList, bnd e = true → e.on < j) ∧
            (∀ k, bit b' k = true → ∃ e ∈ o.after.toList, bnd e = true ∧ e.on < j ∧ (e.on = k ∨ ∃ be, (p.B.set N b).get e.on = some be ∧ bit be k = true)) := by
          intro j o' hj hlt
          by_cases hjN : j = N
          · subst hjN
            rw [ho] at hj; cases hj
            refine ⟨b, by rw [hBget]; simp, hb1, fun k hk => ?_⟩
            rcases hb2 k hk with h0 | ⟨e, he, h1, h2, h3⟩
            · rw [bit_zero] at h0; cases h0
            · refine ⟨e, he, h1, h2, ?_⟩
              rcases h3 with h3 | ⟨be, h3, h4⟩
              · exact .inl h3
              · exact .inr ⟨be, by rw [hBget, if_neg (by omega)]; exact h3, h4⟩
          · obtain ⟨b', g1, g2, g3⟩ := ok.B j o' hj (by omega)
            refine ⟨b', by rw [hBget, if_neg hjN]; exact g1, g2, fun k hk => ?_⟩
            obtain ⟨e, he, h1, h2, h3⟩ := g3 k hk
            refine ⟨e, he, h1, h2, ?_⟩
            rcases h3 with h3 | ⟨be, h3, h4⟩
            · exact .inl h3
            · exact .inr ⟨be, by rw [hBget, if_neg (by omega)]; exact h3, h4⟩
        have hBn : ∀ j, N + 1 ≤ j → (p.B.set N b).get j = none := fun j hj => by rw [hBget, if_neg (by omega)]; exact ok.Bn j (by omega)
        have hWi : ∀ d j o, j < N + 1 → f j = some o → o.dst = some d → W.get d = some j ∧ d < n := by
          intro d j o' hj hf hd
          by_cases hjN : j = N
          · subst hjN
            rw [ho] at hf; cases hf
            rw [hd] at hW
            simp only at hW
            cases hlt : Nat.blt d n with
            | false => rw [hlt] at hW; cases hW
            | true =>
              rw [hlt] at hW
              simp only [cond_true] at hW
              split at hW
              · cases hW; exact ⟨by rw [Tr.get_set]; simp, blt_iff.1 hlt⟩
              · cases hW
          · obtain ⟨g1, g2⟩ := ok.Wi d j o' (by omega) hf hd
            refine ⟨?_, g2⟩
            split at hW
            · cases hW; exact g1
            · rename_i d' hd'
              cases hlt : Nat.blt d' n with
              | false => rw [hlt] at hW; cases hW
              | true =>
                rw [hlt] at hW
                simp only [cond_true] at hW
                split at hW
                · rename_i hnone
                  cases hW
                  rw [Tr.get_set]
                  by_cases hdd : d = d'
                  · subst hdd; rw [g1] at hnone; cases hnone
                  · rw [if_neg hdd]; exact g1
                · cases hW
        have hBold : ∀ j b', j < N → p.B.get j = some b' → (p.B.set N b).get j = some b' := fun j b' hj hg => by rw [hBget, if_neg (by omega)]; exact hg
        have hA0 : ∀ x ∈ p.A, x.1 < N + 1 ∧ (p.B.set N b).get x.1 = some x.2 ∧ ∃ o, f x.1 = some o ∧ kd o.op = .anchor ∧ isDefer o.op = false := fun x hx => by
          obtain ⟨h1, h2, h3⟩ := ok.A x hx
          exact ⟨by omega, hBold _ _ h1 h2, h3⟩
        have hL0 : ∀ x ∈ p.L, x.1 < N + 1 ∧ (p.B.set N b).get x.1 = some x.2.1 ∧ ∃ o, f x.1 = some o ∧ kd o.op = .alloc x.2.2 := fun x hx => by
          obtain ⟨h1, h2, h3⟩ := ok.L x hx
          exact ⟨by omega, hBold _ _ h1 h2, h3⟩
        have len : N + (o :: r).length = (N + 1) + r.length := by simp; omega
        rw [len]
        split at h
        · rename_i hk
          refine ih hl' h ⟨hB, hBn, hWi, hA0, ?_, ok.Ao, hL0, ?_⟩
          · intro j o' hj hf hk'
            by_cases hjN : j = N
            · subst hjN; rw [ho] at hf; cases hf; rw [hk] at hk'; cases hk'
            · exact ok.Ac j o' (by omega) hf hk'
          · intro j o' e hj hf hk'
            by_cases hjN : j = N
            · subst hjN; rw [ho] at hf; cases hf; rw [hk] at hk'; cases hk'
            · exact ok.Lc j o' e (by omega) hf hk'
        · rename_i hk
          cases hd : isDefer o.op with
          | true => rw [hd] at h; cases h
          | false =>
          rw [hd] at h
          simp only [cond_false] at h
          cases hall : p.A.all (fun x => bit b x.1) with
          | false => rw [hall] at h; cases h
          | true =>
          rw [hall] at h
          simp only [cond_true] at h
          rw [List.all_eq_true] at hall
          refine ih hl' h ⟨hB, hBn, hWi, ?_, ?_, ?_, hL0, ?_⟩
          · intro x hx
            rcases List.mem_append.1 hx with hx | hx
            · exact hA0 x hx
            · cases List.mem_singleton.1 hx
              exact ⟨by show N < N + 1; omega, by show (p.B.set N b).get N = _; rw [hBget]; simp, o, ho, hk, hd⟩
          · intro j o' hj hf hk'
            by_cases hjN : j = N
            · exact ⟨b, List.mem_append.2 (.inr (by rw [hjN]; exact List.mem_singleton.2 rfl))⟩
            · obtain ⟨b', hb'⟩ := ok.Ac j o' (by omega) hf hk'
              exact ⟨b', List.mem_append.2 (.inl hb')⟩
          · intro x hx y hy hlt
            rcases List.mem_append.1 hx with hx | hx
            · rcases List.mem_append.1 hy with hy | hy
              · exact ok.Ao x hx y hy hlt
              · cases List.mem_singleton.1 hy
                have := (ok.A x hx).1
                simp only at hlt
                omega
            · cases List.mem_singleton.1 hx
              rcases List.mem_append.1 hy with hy | hy
              · exact hall y hy
              · cases List.mem_singleton.1 hy
                simp only at hlt
                omega
          · intro j o' e hj hf hk'
            by_cases hjN : j = N
            · subst hjN; rw [ho] at hf; cases hf; rw [hk] at hk'; cases hk'
            · exact ok.Lc j o' e (by omega) hf hk'
        · rename_i e hk
          refine ih hl' h ⟨hB, hBn, hWi, hA0, ?_, ok.Ao, ?_, ?_⟩
          · intro j o' hj hf hk'
            by_cases hjN : j = N
            · subst hjN; rw [ho] at hf; cases hf; rw [hk] at hk'; cases hk'
            · exact ok.Ac j o' (by omega) hf hk'
          · intro x hx
            rcases List.mem_append.1 hx with hx | hx
            · exact hL0 x hx
            · cases List.mem_singleton.1 hx
              exact ⟨by show N < N + 1; omega, by show (p.B.set N b).get N = _; rw [hBget]; simp, o, ho, hk⟩
          · intro j o' e' hj hf hk'
            by_cases hjN : j = N
            · subst hjN; rw [ho] at hf; cases hf; rw [hk] at hk'; cases hk'
              exact ⟨b, List.mem_append.2 (.inr (List.mem_singleton.2 rfl))⟩
            · obtain ⟨b', hb'⟩ := ok.Lc j o' e' (by omega) hf hk'
              exact ⟨b', List.mem_append.2 (.inl hb')⟩

theorem prepOK_zero (f : Nat → Option Oper) (n : Nat) : PrepOK f n 0 ⟨.nil, .nil, [], []⟩ :=
  ⟨fun _ _ _ h => absurd h (Nat.not_lt_zero _), fun _ _ => rfl, fun _ _ _ h => absurd h (Nat.not_lt_zero _), fun _ h => (by cases h), fun _ _ h => absurd h (Nat.not_lt_zero _), fun _ h => (by cases h), fun _ h => (by cases h), fun _ _ _ h => absurd h (Nat.not_lt_zero _)⟩

theorem narrow_spec {q : Prep} {n i b : Nat} {t : Tr V} : ∀ {ds : List Nat} {r : Tr V}, narrow q n i b t ds = some r →
    ∀ d, (d ∈ ds → r.get d = t.get d ∧ ∀ j, q.W.get d = some j → i = j ∨ bit b j = true ∨ ∃ bj, q.B.get j = some bj ∧ bit bj i = true) ∧ (d ∉ ds → r.get d = none) := by
  intro ds
  induction ds with
  | nil => intro r h d; cases h; exact ⟨fun h => (by cases h), fun _ => rfl⟩
  | cons d0 ds ih =>
    intro r h d
    simp only [narrow] at h
    split at h
    · cases h
    · rename_i r1 h1
      obtain ⟨g1, g2⟩ := ih h1 d
      cases hc : sees q i b d0 with
      | false => rw [hc] at h; cases h
      | true =>
        rw [hc] at h
        simp only [cond_true] at h
        have hw : ∀ j, q.W.get d0 = some j → i = j ∨ bit b j = true ∨ ∃ bj, q.B.get j = some bj ∧ bit bj i = true := by
          intro j hj
          unfold sees at hc
          rw [hj] at hc
          simp only at hc
          cases h2 : Nat.beq i j with
          | true => exact .inl (beq_iff.1 h2)
          | false =>
            rw [h2] at hc
            simp only [cond_false] at hc
            cases h3 : bit b j with
            | true => exact .inr (.inl rfl)
            | false =>
              rw [h3] at hc
              simp only [cond_false] at hc
              split at hc
              · rename_i bj hbj; exact .inr (.inr ⟨bj, hbj, hc⟩)
              · cases hc
        split at h
        · rename_i v hv
          cases h
          refine ⟨fun hd => ?_, fun hd => ?_⟩
          · rw [Tr.get_set]
            by_cases hdd : d = d0
            · subst hdd; rw [if_pos rfl]; exact ⟨hv.symm, hw⟩
            · rw [if_neg hdd]
              rcases List.mem_cons.1 hd with e | hd
              · exact absurd e hdd
              · exact g1 hd
          · rw [Tr.get_set, if_neg (fun (e : d = d0) => hd (by rw [e]; exact List.mem_cons_self ..))]
            exact g2 fun hm => hd (List.mem_cons_of_mem _ hm)
        · rename_i hv
          cases h
          refine ⟨fun hd => ?_, fun hd => g2 fun hm => hd (List.mem_cons_of_mem _ hm)⟩
          by_cases hdd : d = d0
          · subst hdd
            refine ⟨?_, hw⟩
            by_cases hm : d ∈ ds
            · exact (g1 hm).1
            · rw [g2 hm, hv]
          · rcases List.mem_cons.1 hd with e | hd
            · exact absurd e hdd
            · exact g1 hd

/-! ### Blocks that lie ready -/
section
variable {G : Nat} {w0 : World} {σ : Ren} {h : Hp} {w : World}

/-- A block of the evaluator's that the machine has not laid. -/
theorem WR.idle (r : WR G w0 σ h w) (o : O) : WR G w0 σ (h.new o) w := by
  have hnone := r.fresh h.n (Nat.le_refl _)
  have key : ∀ i b, σ i = some b → (h.new o).at_ i = h.at_ i := fun i b e => by
    rw [Hp.at_new, if_neg (fun hi => by subst hi; rw [hnone] at e; cases e)]
  refine ⟨fun i hi => r.fresh i (Nat.le_of_succ_le hi), fun i b p e ha hv => r.obj i b p e ((key i b e).symm.trans ha) hv, r.own, r.old, fun i b c e sp c' e' f ei hg hi hw => r.calm i b c e sp c' e' f ei hg ((key i b ei).symm.trans hi) hw, fun i j b p q gi gj ei ej hi hpi hj hpj => ?_, r.below, Nat.le_succ_of_le r.low, fun i b c e sp c' e' f ei hi hw => ?_⟩
  · exact r.injG i j b p q gi gj ei ej ((key i b ei).symm.trans hi) hpi ((key j b ej).symm.trans hj) hpj
  · exact r.size i b c e sp c' e' f ei ((key i b ei).symm.trans hi) hw

/-- The machine lays a block that lay ready. -/
theorem WR.wake (r : WR G w0 σ h w) {i : Nat} (hgi : G ≤ i) (hi : σ i = none) (hlt : i < h.n) {cs : List V} {e : TypeId} (ha : h.at_ i = some (.cells cs e false)) {cs' : Array Value} (hc : F2 (RC σ) cs cs'.toList) :
    WR G w0 (σ.upd i w.heap.size cs.length) h (w.alloc (.cells cs' e)) ∧ Ren.le σ (σ.upd i w.heap.size cs.length) := by
  have hle : Ren.le σ (σ.upd i w.heap.size cs.length) := Ren.le_upd _ _ hi
  have hlen : cs'.size = cs.length := by rw [hc.length]; simp
  refine ⟨⟨fun j hj => ?_, fun j b p ej hj hv => ?_, fun j b ej hj => ?_, fun j b ej hj => ?_, fun j b c e1 sp c' e' f ej hgj hj hw => ?_, fun j k b p q gj gk ej ek hj hpj hk hpk => ?_, r.below.alloc r.below.size _, r.low, fun j b c e1 sp c' e' f ej hj hw => ?_⟩, hle⟩
  · rw [Ren.upd_other _ _ _ (by omega)]; exact r.fresh j hj
  · by_cases h1 : j = i
    · subst h1
      rw [Ren.upd_same] at ej; cases ej
      rw [ha] at hj; cases hj
      exact ⟨_, heap_alloc_new w _, cellsOR _ e (hc.mono fun _ _ x => x.mono hle)⟩
    · rw [Ren.upd_other _ _ _ h1] at ej
      obtain ⟨p', h2, h3⟩ := r.obj j b p ej hj hv
      exact ⟨p', (heap_alloc_old w _ b (Array.getElem?_eq_some_iff.1 h2).1).trans h2, h3.mono hle⟩
  · by_cases h1 : j = i
    · subst h1; rw [Ren.upd_same] at ej; cases ej; exact r.below.size
    · rw [Ren.upd_other _ _ _ h1] at ej; exact r.own j b ej hj
  · rw [Ren.upd_other _ _ _ (by omega)] at ej; exact r.old j b ej hj
  · by_cases h1 : j = i
    · subst h1
      rw [Ren.upd_same] at ej; cases ej
      rw [heap_alloc_new] at hw
      cases hw
      exact .inl rfl
    · rw [Ren.upd_other _ _ _ h1] at ej
      rw [heap_alloc_old w _ b (r.blk ej hj rfl)] at hw
      exact r.calm j b c e1 sp c' e' f ej hgj hj hw
  · by_cases h1 : j = i
    · by_cases h2 : k = i
      · rw [h1, h2]
      · subst h1
        rw [Ren.upd_same] at ej; cases ej
        rw [Ren.upd_other _ _ _ h2] at ek
        have := r.blk ek hk hpk
        omega
    · rw [Ren.upd_other _ _ _ h1] at ej
      by_cases h2 : k = i
      · subst h2
        rw [Ren.upd_same] at ek; cases ek
        have := r.blk ej hj hpj
        omega
      · rw [Ren.upd_other _ _ _ h2] at ek
        exact r.injG j k b p q gj gk ej ek hj hpj hk hpk
  · by_cases h1 : j = i
    · subst h1
      rw [Ren.upd_same] at ej; cases ej
      rw [ha] at hj; cases hj
      rw [heap_alloc_new] at hw
      cases hw
      rw [Ren.updz_same, hlen]
    · rw [Ren.upd_other _ _ _ h1] at ej
      rw [Ren.updz_other _ _ _ h1]
      rw [heap_alloc_old w _ b (r.blk ej hj rfl)] at hw
      exact r.size j b c e1 sp c' e' f ej hj hw
end

theorem reserve_spec {E : Env} {A : List (Nat × Nat)} {p : Nat} : ∀ {L : List (Nat × Nat × TypeId)} {h h' : Hp} {M M' : Tr Nat}, reserve E A p L h M = some (h', M') →
    (∀ i id, M.get i = some id → id < h.n) → (∀ i j id, M.get i = some id → M.get j = some id → i = j) →
    (∀ (w0 : World) (σ : Ren) (w : World), WR E.R w0 σ h w → WR E.R w0 σ h' w) ∧ h.n ≤ h'.n ∧ (∀ i id, M.get i = some id → M'.get i = some id) ∧
    (∀ i id, M'.get i = some id → id < h'.n) ∧ (∀ i j id, M'.get i = some id → M'.get j = some id → i = j) ∧ (∀ j, j < h.n → h'.at_ j = h.at_ j) ∧
    (∀ x ∈ L, admis A p x.1 x.2.1 = true → M.get x.1 = none ∧ ∃ id zs, M'.get x.1 = some id ∧ h.n ≤ id ∧ vzero E x.2.2 = some zs ∧ h'.at_ id = some (.cells zs x.2.2 false)) := by
  intro L
  induction L with
  | nil => intro h h' M M' e hM hI; cases e; exact ⟨fun _ _ _ r => r, Nat.le_refl _, fun _ _ h => h, hM, hI, fun _ _ => rfl, fun _ h => (by cases h)⟩
  | cons x r ih =>
    obtain ⟨i, b, e⟩ := x
    intro h h' M M' he hM hI
    simp only [reserve] at he
    cases ha : admis A p i b with
    | false =>
      rw [ha] at he
      simp only [cond_false] at he
      obtain ⟨h1, h2, h3, h4, h5, h6, h7⟩ := ih he hM hI
      refine ⟨h1, h2, h3, h4, h5, h6, fun y hy hay => ?_⟩
      rcases List.mem_cons.1 hy with rfl | hy
      · rw [ha] at hay; cases hay
      · exact h7 y hy hay
    | true =>
      rw [ha] at he
      simp only [cond_true] at he
      split at he
      · rename_i zs hz hnone
        have hMget : ∀ j, (M.set i h.n).get j = if j = i then some h.n else M.get j := fun j => Tr.get_set ..
        have hM' : ∀ j id, (M.set i h.n).get j = some id → id < (h.new (.cells zs e false)).n := fun j id hj => by
          rw [hMget] at hj
          by_cases hji : j = i
          · rw [if_pos hji] at hj; cases hj; exact Nat.lt_succ_self _
          · rw [if_neg hji] at hj; exact Nat.lt_succ_of_lt (hM j id hj)
        have hI' : ∀ j k id, (M.set i h.n).get j = some id → (M.set i h.n).get k = some id → j = k := fun j k id hj hk => by
          rw [hMget] at hj hk
          by_cases h1 : j = i
          · by_cases h2 : k = i
            · rw [h1, h2]
            · rw [if_pos h1] at hj; cases hj
              rw [if_neg h2] at hk
              have := hM k _ hk
              omega
          · rw [if_neg h1] at hj
            by_cases h2 : k = i
            · rw [if_pos h2] at hk; cases hk
              have := hM j _ hj
              omega
            · rw [if_neg h2] at hk; exact hI j k id hj hk
        obtain ⟨h1, h2, h3, h4, h5, h6, h7⟩ := ih he hM' hI'
        have hn1 : (h.new (.cells zs e false)).n = h.n + 1 := rfl
        refine ⟨fun w0 σ w wr => h1 w0 σ w (wr.idle _), by omega, fun j id hj => h3 j id ?_, h4, h5, fun j hj => ?_, fun y hy hay => ?_⟩
        · rw [hMget, if_neg (fun hji => by subst hji; rw [hnone] at hj; cases hj)]; exact hj
        · rw [h6 j (by omega), Hp.at_new, if_neg (by omega)]
        · rcases List.mem_cons.1 hy with rfl | hy
          · refine ⟨hnone, h.n, zs, h3 _ _ (by rw [hMget, if_pos rfl]), Nat.le_refl _, hz, ?_⟩
            rw [h6 _ (by omega), Hp.at_new, if_pos rfl]
          · obtain ⟨g1, id, zs', g2, g3, g4, g5⟩ := h7 y hy hay
            rw [hMget] at g1
            by_cases hyi : y.1 = i
            · rw [if_pos hyi] at g1; cases g1
            · rw [if_neg hyi] at g1
              exact ⟨g1, id, zs', g2, by omega, g4, g5⟩
      · cases he

/-! ### The states in the order of the text -/
theorem draws_at {E : Env} {call : Inv} {ops : Array Oper} {q : Prep} {n : Nat} {d : List Nat} : ∀ {l : List Oper} {i : Nat} {s f : S4} {rs : List Rc}, draws E call ops q n d l i s = some (rs, f) →
    rs.length = l.length ∧ stAt f rs 0 = s ∧ stAt f rs l.length = f ∧ ∀ k o, l[k]? = some o → ∃ c, rs[k]? = some c ∧ c.s = stAt f rs k ∧ dstep E call ops q n d (i + k) c.s o = some (c.v, c.r, stAt f rs (k + 1)) := by
  intro l
  induction l with
  | nil => intro i s f rs h; cases h; exact ⟨rfl, rfl, rfl, fun k o h => by simp at h⟩
  | cons o r ih =>
    intro i s f rs h
    simp only [draws] at h
    split at h
    · cases h
    · rename_i v t s' hs
      split at h
      · cases h
      · rename_i rs' f' hr
        cases h
        obtain ⟨h1, h2, h3, h4⟩ := ih hr
        refine ⟨by simp [h1], rfl, h3, fun k o' hk => ?_⟩
        cases k with
        | zero =>
          simp at hk; subst hk
          exact ⟨_, rfl, rfl, by show dstep E call ops q n d i s o = some (v, t, stAt f rs' 0); rw [h2]; exact hs⟩
        | succ k =>
          obtain ⟨c, g1, g2, g3⟩ := h4 k o' (by simpa using hk)
          exact ⟨c, by simpa using g1, g2, by rw [show i + (k + 1) = i + 1 + k by omega]; exact g3⟩

theorem chk_at {E : Env} {call : Inv} {ops : Array Oper} {q : Prep} {n : Nat} {d : List Nat} {lv : List (Nat × Hp)} : ∀ {l : List Oper} {i : Nat} {rs : List Rc}, chk E call ops q n d lv l i rs = true →
    ∀ k o c, l[k]? = some o → rs[k]? = some c → kd o.op = .mover → ∃ b, q.B.get (i + k) = some b ∧ ∀ x ∈ lv, chkAt E call q n o (i + k) b c (vwanted ops ⟨c.r, n, c.s.h, d⟩ o) x.1 x.2 = true := by
  intro l
  induction l with
  | nil => intro i rs h k o c hk; simp at hk
  | cons o r ih =>
    intro i rs h k o' c hk hc hm
    cases rs with
    | nil => simp at hc
    | cons c0 rs =>
      simp only [chk, Bool.and_eq_true] at h
      cases k with
      | zero =>
        simp at hk hc; subst hk; subst hc
        rw [hm] at h
        simp only at h
        split at h
        · rename_i b hb
          exact ⟨b, hb, fun x hx => (List.all_eq_true.1 h.1) x hx⟩
        · cases h.1
      | succ k =>
        obtain ⟨b, h1, h2⟩ := ih h.2 k o' c (by simpa using hk) (by simpa using hc) hm
        rw [show i + 1 + k = i + (k + 1) by omega] at h1 h2
        exact ⟨b, h1, h2⟩

/-! ### Equal values -/
theorem veqS_eq : ∀ {a b : Value}, veqS a b = true → a = b := by
  intro a b h
  unfold veqS at h
  split at h
  · rename_i x y
    cases x <;> cases y <;> first | rfl | cases h
  · rw [Bool.and_eq_true, decide_eq_true_iff, decide_eq_true_iff] at h; rw [h.1, h.2]
  · rw [decide_eq_true_iff] at h; rw [h]
  · rfl
  · rfl
  · rfl
  · rfl
  · rfl
  · rw [Bool.and_eq_true, decide_eq_true_iff, decide_eq_true_iff] at h; rw [h.1, h.2]
  · cases h
theorem veqO_eq : ∀ {a b : Option Nat}, veqO a b = true → a = b := by
  intro a b h
  cases a <;> cases b <;> first | rfl | (cases h; done) | (rw [beq_iff.1 h])
mutual
theorem veq_eq : ∀ {a b : V}, veq a b = true → a = b := by
  intro a b h
  cases a <;> cases b <;> simp only [veq, Bool.and_eq_true] at h <;> first
    | (cases h; done)
    | rw [veqS_eq h]
    | rw [beq_iff.1 h]
    | rw [beq_iff.1 h.1, beq_iff.1 h.2]
    | rw [beq_iff.1 h.1.1, veqs_eq h.1.2, veqs_eq h.2]
    | rw [veqs_eq h]
    | rw [beq_iff.1 h.1.1.1.1, beq_iff.1 h.1.1.1.2, beq_iff.1 h.1.1.2, beq_iff.1 h.1.2, veqO_eq h.2]
theorem veqs_eq : ∀ {a b : List V}, veqs a b = true → a = b := by
  intro a b h
  cases a <;> cases b <;> simp only [veqs, Bool.and_eq_true] at h <;> first
    | rfl
    | (cases h; done)
    | rw [veq_eq h.1, veqs_eq h.2]
end
end
end Go.Proofs.YtmlfcaaecofnjaaGreatDoor.SM
