/- Spans: marks, picked, the reference. -/
import Derived.Test.YtmlfcaaecofnjaaGreatDoorSpanA
set_option linter.unusedVariables false
namespace Go.Proofs.YtmlfcaaecofnjaaGreatDoor
open Go Go.Proofs Go.RowKit SM
set_option maxRecDepth 100000

/-! ### A row of marks -/
def vs (m : Nat → Nat) : List V := (List.range 40001).map fun q => int (m q)
theorem vs_len (m : Nat → Nat) : (vs m).length = 40001 := by unfold vs; rw [List.length_map, List.length_range]
theorem vs_at (m : Nat → Nat) {q : Nat} (h : q < 40001) : (vs m)[0 + q * 1]? = some (int (m q)) := by
  unfold vs
  rw [List.getElem?_map, show 0 + q * 1 = q by omega, List.getElem?_range h]
  rfl
theorem vs_congr {m m' : Nat → Nat} (h : ∀ q, q < 40001 → m q = m' q) : vs m = vs m' := by
  unfold vs
  exact List.map_congr_left fun q hq => by rw [h q (List.mem_range.1 hq)]
theorem vs_flat (m : Nat → Nat) : FlatC (vs m) := fun v hv => by
  unfold vs at hv
  obtain ⟨x, _, rfl⟩ := List.mem_map.1 hv
  exact .inr ⟨_, rfl⟩
def upd (m : Nat → Nat) (q x : Nat) : Nat → Nat := fun p => if p = q then x else m p
theorem vs_set (m : Nat → Nat) {q : Nat} (x : Nat) (h : q < 40001) : (vs m).take (0 + q * 1) ++ [int x] ++ (vs m).drop (0 + q * 1 + 1) = vs (upd m q x) := by
  have h1 : (vs m).set q (int x) = vs (upd m q x) := by
    refine List.ext_getElem? fun i => ?_
    rw [List.getElem?_set, vs_len, if_pos h]
    unfold vs upd
    by_cases hi : i < 40001
    · rw [List.getElem?_map, List.getElem?_map, List.getElem?_range hi]
      by_cases hq : q = i
      · subst hq; simp
      · have hq' : ¬ i = q := fun h => hq h.symm
        simp [hq, hq']
    · have hq : ¬ q = i := by omega
      rw [if_neg hq, List.getElem?_eq_none (by simp; omega), List.getElem?_eq_none (by simp; omega)]
  rw [show 0 + q * 1 = q by omega, ← h1, List.set_eq_take_append_cons_drop, if_pos (by rw [vs_len]; exact h), List.append_assoc]
  rfl
theorem upd_self (m : Nat → Nat) (q : Nat) : upd m q (m q) = m := funext fun p => by
  unfold upd
  split
  · rename_i h; rw [h]
  · rfl
theorem zeros_eq (v : V) : ∀ N : Nat, (List.replicate N [v]).flatten = (List.range N).map fun _ => v := by
  intro N
  rw [List.map_const', List.length_range]
  induction N with
  | zero => rfl
  | succ N ih => rw [List.replicate_succ, List.flatten_cons, ih]; rfl
theorem vs_zero : (List.replicate 40001 [int 0]).flatten = vs fun _ => 0 := zeros_eq (int 0) 40001

/-- A bit put to a mark. -/
def orI (x n : Nat) : Nat := if x / n % 2 = 0 then x + n else x
theorem orI_le {x n : Nat} (hx : x ≤ 3) (hn : n = 1 ∨ n = 2) : orI x n ≤ 3 := by
  unfold orI
  rcases hn with rfl | rfl <;> split <;> omega
theorem and_zero {x n : Nat} (hx : x ≤ 3) (hn : n = 1 ∨ n = 2) (h : x / n % 2 = 0) : IntKind.i64.wrap ((Nat.bitwise and (BitVec.ofInt IntKind.i64.bits (x : Int)).toNat (BitVec.ofInt IntKind.i64.bits (n : Int)).toNat : Nat) : Int) = 0 := by
  have : ∀ x : Fin 4, ∀ n : Fin 2, x.val / (n.val + 1) % 2 = 0 → IntKind.i64.wrap ((Nat.land (BitVec.ofInt IntKind.i64.bits (x.val : Int)).toNat (BitVec.ofInt IntKind.i64.bits ((n.val + 1 : Nat) : Int)).toNat : Nat) : Int) = 0 := by decide
  rcases hn with rfl | rfl
  · exact this ⟨x, by omega⟩ 0 h
  · exact this ⟨x, by omega⟩ 1 h
theorem and_one {x n : Nat} (hx : x ≤ 3) (hn : n = 1 ∨ n = 2) (h : ¬ x / n % 2 = 0) : IntKind.i64.wrap ((Nat.bitwise and (BitVec.ofInt IntKind.i64.bits (x : Int)).toNat (BitVec.ofInt IntKind.i64.bits (n : Int)).toNat : Nat) : Int) = (n : Int) := by
  have : ∀ x : Fin 4, ∀ n : Fin 2, ¬ x.val / (n.val + 1) % 2 = 0 → IntKind.i64.wrap ((Nat.land (BitVec.ofInt IntKind.i64.bits (x.val : Int)).toNat (BitVec.ofInt IntKind.i64.bits ((n.val + 1 : Nat) : Int)).toNat : Nat) : Int) = ((n.val + 1 : Nat) : Int) := by decide
  rcases hn with rfl | rfl
  · exact this ⟨x, by omega⟩ 0 h
  · exact this ⟨x, by omega⟩ 1 h

/-- The quarters of a list. -/
def inS (s : Sp) (q : Nat) : Bool := decide (s.1 ≤ (q : Int)) && decide ((q : Int) < s.2)
def cov (l : List Sp) (q : Nat) : Bool := l.any fun s => inS s q
/-- The marks, where these are marked. -/
def markF (p : Nat → Bool) (n : Nat) (m : Nat → Nat) : Nat → Nat := fun q => if p q then orI (m q) n else m q
theorem orI_orI {x n : Nat} (hn : n = 1 ∨ n = 2) : orI (orI x n) n = orI x n := by
  unfold orI
  rcases hn with rfl | rfl
  · split
    · rename_i h; rw [if_neg (by omega)]
    · rfl
  · split
    · rename_i h; rw [if_neg (by omega)]
    · rfl
theorem markF_le {p : Nat → Bool} {n : Nat} {m : Nat → Nat} (hn : n = 1 ∨ n = 2) (hm : ∀ q, m q ≤ 3) : ∀ q, markF p n m q ≤ 3 := fun q => by
  unfold markF
  split
  · exact orI_le (hm q) hn
  · exact hm q
def seg (a b : Nat) (q : Nat) : Bool := decide (a ≤ q) && decide (q < b)
theorem blk113i : blk Tryz.f113 2 = .block 2 (.loop (rnd Tryz.f113 2)) := by kernel_rfl
theorem blk113o : blk Tryz.f113 0 = .block 0 (.loop (rnd Tryz.f113 0)) := by kernel_rfl
abbrev kP (keep : List Nat) : Wk := ⟨10, [(6, 6, true), (7, 7, true), (8, 8, true), (9, 9, true)], keep, [], 10⟩
noncomputable abbrev hP (A B C : O) (m : Nat → Nat) : Hp := ⟨10, mkH [(6, A), (7, B), (8, C), (9, .cells (vs m) 3 false)]⟩
theorem seg_step {a b : Nat} (n : Nat) (hn : n = 1 ∨ n = 2) (m : Nat → Nat) (h : a < b) : markF (seg (a + 1) b) n (upd m a (orI (m a) n)) = markF (seg a b) n m := by
  funext q
  unfold markF seg upd
  by_cases h1 : q = a
  · subst h1
    have h0 : ¬ q + 1 ≤ q := by omega
    rw [if_pos rfl]
    simp [h, h0]
  · rw [if_neg h1]
    by_cases h2 : a + 1 ≤ q
    · have h3 : a ≤ q := by omega
      simp [h2, h3]
    · have h3 : ¬ a ≤ q := by omega
      simp [h2, h3]
theorem seg_end {a b : Nat} (n : Nat) (m : Nat → Nat) (h : b ≤ a) : markF (seg a b) n m = m := by
  funext q
  unfold markF seg
  by_cases h2 : a ≤ q
  · have h3 : ¬ q < b := by omega
    simp [h3]
  · simp [h2]
theorem cov_step (s : Sp) (r : List Sp) (n : Nat) (hn : n = 1 ∨ n = 2) (m : Nat → Nat) {a b : Nat} (ha : s.1 = (a : Int)) (hb : s.2 = (b : Int)) : markF (cov r) n (markF (seg a b) n m) = markF (cov (s :: r)) n m := by
  funext q
  have : inS s q = seg a b q := by
    unfold inS seg
    rw [ha, hb]
    congr 1 <;> simp
  have hc : cov (s :: r) q = (seg a b q || cov r q) := by
    unfold cov
    rw [List.any_cons, this]
  unfold markF
  rw [hc]
  generalize cov r q = y
  cases y <;> cases seg a b q <;> simp [orI_orI hn]

/-! ### nacelleref01.marks, a list in block 6 -/
noncomputable abbrev gI6 (c : List V) (e : TypeId) (sp : Bool) (X C : O) (o n : Nat) (cap : Option Nat) (nn k q : Nat) (m : Nat → Nat) : St := ⟨frm 44 [(0, .sl 9 0 40001 1 (some 40001)), (1, .sl 6 o n 2 cap), (2, int nn), (6, int k), (7, int q)], 44, hP (.cells c e sp) X C m, []⟩
noncomputable abbrev gO6 (c : List V) (e : TypeId) (sp : Bool) (X C : O) (o n : Nat) (cap : Option Nat) (nn k : Nat) (m : Nat → Nat) : St := ⟨frm 44 [(0, .sl 9 0 40001 1 (some 40001)), (1, .sl 6 o n 2 cap), (2, int nn), (6, int k)], 44, hP (.cells c e sp) X C m, []⟩
noncomputable abbrev gE6 (c : List V) (e : TypeId) (sp : Bool) (X C : O) (m : Nat → Nat) : St := ⟨frm 44 [], 44, hP (.cells c e sp) X C m, []⟩
theorem mi6 (w : World) {c : List V} {e : TypeId} {sp : Bool} {X C : O} {o : Nat} {cap : Option Nat} {l : List Sp} (R : Row2 c o l) (sX : SameO (kP []).ρ X) (sC : SameO (kP []).ρ C) {nn : Nat} (hn : nn = 1 ∨ nn = 2) {k b : Nat} (hk : k < l.length) (hb : l[k].2 = (b : Int)) (hb2 : b ≤ 40000) :
    ∀ (d q : Nat) (m : Nat → Nat), q + d = b → (∀ q, m q ≤ 3) → LTri (En 9) w 10 true (rnd Tryz.f113 2) (gI6 c e sp X C o l.length cap nn k q m) (.exit 2) (gO6 c e sp X C o l.length cap nn k (markF (seg q b) nn m)) := by
  intro d
  induction d with
  | zero =>
    intro q m hq hm
    rw [seg_end nn m (by omega)]
    exact LTri.leave (fun h => by cases h) (Tri.of_pass (S := [(22, .ix k), (24, .ld (int l[k].2)), (25, .eq (boo false))]) (kP [0, 1, 2, 6]) mixedP nocall_ok
      [(k : Int) = (k : Int), k < l.length, c[o + k * 2 + 1]? = some (int l[k].2), boo (decide ((q : Int) < l[k].2)) = boo false, SameO (kP []).ρ (.cells c e sp), SameO (kP []).ρ X, SameO (kP []).ρ C, SameO (kP []).ρ (.cells (vs m) 3 false)] (by kernel_rfl) ⟨rfl, hk, R.at1 hk, dec_f (by omega), sameO R.flat, sX, sC, sameO (vs_flat m)⟩)
  | succ d ih =>
    intro q m hq hm
    have hq1 : q < 40001 := by omega
    by_cases hz : m q / nn % 2 = 0
    · have ho : orI (m q) nn = m q + nn := if_pos hz
      have i1 := ih (q + 1) (upd m q (orI (m q) nn)) (by omega) (fun p => by unfold upd; split; exact orI_le (hm q) hn; exact hm p)
      rw [seg_step nn hn m (by omega)] at i1
      rw [ho] at i1
      refine LTri.pass ?_ i1
      have hx := hm q
      exact Tri.of_pass (S := [(22, .ix k), (24, .ld (int l[k].2)), (25, .eq (boo true)), (30, .ix q), (31, .ld (int (m q))), (33, .eq (int 0)), (34, .eq (boo true)), (39, .ix q), (40, .ld (int (m q))), (42, .eq (int (m q + nn : Nat))), (43, .ix q), (100043, .st (vs (upd m q (m q + nn)))), (27, .eq (int (q + 1 : Nat)))]) (kP [0, 1, 2, 6, 7]) mixedP nocall_ok
        [(k : Int) = (k : Int), k < l.length, c[o + k * 2 + 1]? = some (int l[k].2), boo (decide ((q : Int) < l[k].2)) = boo true, (q : Int) = (q : Int), q < 40001, (vs m)[0 + q * 1]? = some (int (m q)),
          int (IntKind.i64.wrap ((Nat.bitwise and (BitVec.ofInt IntKind.i64.bits (m q : Int)).toNat (BitVec.ofInt IntKind.i64.bits (nn : Int)).toNat : Nat) : Int)) = int 0, boo true = boo true, (q : Int) = (q : Int), q < 40001, (vs m)[0 + q * 1]? = some (int (m q)),
          int (IntKind.i64.wrap ((m q : Int) + (nn : Int))) = int (m q + nn : Nat), (q : Int) = (q : Int), q < 40001, 0 + q * 1 + [int (m q + nn : Nat)].length ≤ (vs m).length,
          (vs m).take (0 + q * 1) ++ [int (m q + nn : Nat)] ++ (vs m).drop (0 + q * 1 + [int (m q + nn : Nat)].length) = vs (upd m q (m q + nn)), int (IntKind.i64.wrap ((q : Int) + 1)) = int (q + 1 : Nat), SameO (kP []).ρ (.cells c e sp), SameO (kP []).ρ X, SameO (kP []).ρ C, SameO (kP []).ρ (.cells (vs (upd m q (m q + nn))) 3 false)] (by kernel_rfl)
        ⟨rfl, hk, R.at1 hk, dec_t (by omega), rfl, hq1, vs_at m hq1, int_eq (and_zero hx hn hz), rfl, rfl, hq1, vs_at m hq1, int_eq (by rw [wrap_id (by omega) (by omega)]; omega), rfl, hq1, by rw [vs_len]; simp; omega, vs_set m _ hq1, hwr (by omega), sameO R.flat, sX, sC, sameO (vs_flat _)⟩
    · have ho : orI (m q) nn = m q := if_neg hz
      have i1 := ih (q + 1) (upd m q (orI (m q) nn)) (by omega) (fun p => by unfold upd; split; exact orI_le (hm q) hn; exact hm p)
      rw [seg_step nn hn m (by omega)] at i1
      rw [ho, upd_self m q] at i1
      refine LTri.pass ?_ i1
      exact Tri.of_pass (S := [(22, .ix k), (24, .ld (int l[k].2)), (25, .eq (boo true)), (30, .ix q), (31, .ld (int (m q))), (33, .eq (int nn)), (34, .eq (boo false)), (27, .eq (int (q + 1 : Nat)))]) (kP [0, 1, 2, 6, 7]) mixedP nocall_ok
        [(k : Int) = (k : Int), k < l.length, c[o + k * 2 + 1]? = some (int l[k].2), boo (decide ((q : Int) < l[k].2)) = boo true, (q : Int) = (q : Int), q < 40001, (vs m)[0 + q * 1]? = some (int (m q)),
          int (IntKind.i64.wrap ((Nat.bitwise and (BitVec.ofInt IntKind.i64.bits (m q : Int)).toNat (BitVec.ofInt IntKind.i64.bits (nn : Int)).toNat : Nat) : Int)) = int nn, boo ((nn : Int) == 0) = boo false, int (IntKind.i64.wrap ((q : Int) + 1)) = int (q + 1 : Nat), SameO (kP []).ρ (.cells c e sp), SameO (kP []).ρ X, SameO (kP []).ρ C, SameO (kP []).ρ (.cells (vs m) 3 false)] (by kernel_rfl)
        ⟨rfl, hk, R.at1 hk, dec_t (by omega), rfl, hq1, vs_at m hq1, int_eq (and_one (hm q) hn hz), boo_eq (beq_eq_false_iff_ne.2 (by omega)), hwr (by omega), sameO R.flat, sX, sC, sameO (vs_flat _)⟩
theorem mo6 (w : World) {c : List V} {e : TypeId} {sp : Bool} {X C : O} {o : Nat} {cap : Option Nat} {l : List Sp} (R : Row2 c o l) (hl : l.length ≤ 1000000) (hv : ∀ s ∈ l, spanE s = 0) (sX : SameO (kP []).ρ X) (sC : SameO (kP []).ρ C) {nn : Nat} (hn : nn = 1 ∨ nn = 2) :
    ∀ (d k : Nat) (m : Nat → Nat), k + d = l.length → (∀ q, m q ≤ 3) → LTri (En 9) w 10 true (rnd Tryz.f113 0) (gO6 c e sp X C o l.length cap nn k m) (.exit 0) (gE6 c e sp X C (markF (cov (l.drop k)) nn m)) := by
  intro d
  induction d with
  | zero =>
    intro k m hk hm
    rw [List.drop_eq_nil_of_le (by omega), show markF (cov []) nn m = m from rfl]
    exact LTri.leave (fun h => by cases h) (Tri.of_pass (S := [(11, .eq (boo false))]) (kP []) mixedP nocall_ok [boo (decide ((k : Int) < (l.length : Int))) = boo false, SameO (kP []).ρ (.cells c e sp), SameO (kP []).ρ X, SameO (kP []).ρ C, SameO (kP []).ρ (.cells (vs m) 3 false)] (by kernel_rfl) ⟨dec_f (by omega), sameO R.flat, sX, sC, sameO (vs_flat m)⟩)
  | succ d ih =>
    intro k m hk hm
    have hlt : k < l.length := by omega
    have hd : l.drop k = l[k] :: l.drop (k + 1) := List.drop_eq_getElem_cons hlt
    obtain ⟨s1, s2, s3⟩ := spanE_zero (hv l[k] (List.getElem_mem _))
    obtain ⟨a, ha⟩ : ∃ a : Nat, l[k].1 = (a : Int) := ⟨l[k].1.toNat, by omega⟩
    obtain ⟨b, hb⟩ : ∃ b : Nat, l[k].2 = (b : Int) := ⟨l[k].2.toNat, by omega⟩
    have i1 := ih (k + 1) (markF (seg a b) nn m) (by omega) (markF_le hn hm)
    rw [hd, ← cov_step l[k] _ nn hn m ha hb]
    refine LTri.pass ?_ i1
    exact Tri.of_pass (S := [(11, .eq (boo true)), (16, .ix k), (18, .ld (int a)), (400002, .code (kP [0, 1, 2, 6, 7]) .norm (gO6 c e sp X C o l.length cap nn k (markF (seg a b) nn m))), (13, .eq (int (k + 1 : Nat)))]) (kP [0, 1, 2, 6]) mixedP nocall_ok
      [boo (decide ((k : Int) < (l.length : Int))) = boo true, (k : Int) = (k : Int), k < l.length, c[o + k * 2 + 0]? = some (int a), SameO (kP []).ρ (.cells c e sp), SameO (kP []).ρ X, SameO (kP []).ρ C, SameO (kP []).ρ (.cells (vs m) 3 false),
        Tri (En 9) w 10 true (blk Tryz.f113 2) (gI6 c e sp X C o l.length cap nn k a m) .norm (gO6 c e sp X C o l.length cap nn k (markF (seg a b) nn m)), int (IntKind.i64.wrap ((k : Int) + 1)) = int (k + 1 : Nat), SameO (kP []).ρ (.cells c e sp), SameO (kP []).ρ X, SameO (kP []).ρ C, SameO (kP []).ρ (.cells (vs (markF (seg a b) nn m)) 3 false)] (by kernel_rfl)
      ⟨dec_t (by omega), rfl, hlt, ha ▸ R.at0 hlt, sameO R.flat, sX, sC, sameO (vs_flat m), Tri.rnd blk113i (mi6 w R sX sC hn hlt hb (by omega) (b - a) a m (by omega) hm), hwr (by omega), sameO R.flat, sX, sC, sameO (vs_flat _)⟩
theorem marks6 (w : World) {c : List V} {e : TypeId} {sp : Bool} {X C : O} {o : Nat} {cap : Option Nat} {l : List Sp} (R : Row2 c o l) (hl : l.length ≤ 1000000) (hv : ∀ s ∈ l, spanE s = 0) (sX : SameO (kP []).ρ X) (sC : SameO (kP []).ρ C) {nn : Nat} (hn : nn = 1 ∨ nn = 2) {m : Nat → Nat} (hm : ∀ q, m q ≤ 3) :
    FnOK (En 9) w 113 [.sl 9 0 40001 1 (some 40001), .sl 6 o l.length 2 cap, int nn] (hP (.cells c e sp) X C m) (.tup []) (hP (.cells c e sp) X C (markF (cov l) nn m)) :=
  FnOK.of_sfun mixedP noGo Tryz.func113 [(400000, .code (kP [0, 1, 2, 6]) .norm (gE6 c e sp X C (markF (cov l) nn m)))]
    [SameO (kP []).ρ (.cells c e sp), SameO (kP []).ρ X, SameO (kP []).ρ C, SameO (kP []).ρ (.cells (vs m) 3 false), Tri (En 9) w 10 true (blk Tryz.f113 0) (gO6 c e sp X C o l.length cap nn 0 m) .norm (gE6 c e sp X C (markF (cov l) nn m))] (by kernel_rfl) ⟨sameO R.flat, sX, sC, sameO (vs_flat m), Tri.rnd blk113o (mo6 w R hl hv sX sC hn l.length 0 m (by omega) hm)⟩

/-! ### nacelleref01.marks, a list in block 7 -/
noncomputable abbrev gI7 (c : List V) (e : TypeId) (sp : Bool) (X C : O) (o n : Nat) (cap : Option Nat) (nn k q : Nat) (m : Nat → Nat) : St := ⟨frm 44 [(0, .sl 9 0 40001 1 (some 40001)), (1, .sl 7 o n 2 cap), (2, int nn), (6, int k), (7, int q)], 44, hP X (.cells c e sp) C m, []⟩
noncomputable abbrev gO7 (c : List V) (e : TypeId) (sp : Bool) (X C : O) (o n : Nat) (cap : Option Nat) (nn k : Nat) (m : Nat → Nat) : St := ⟨frm 44 [(0, .sl 9 0 40001 1 (some 40001)), (1, .sl 7 o n 2 cap), (2, int nn), (6, int k)], 44, hP X (.cells c e sp) C m, []⟩
noncomputable abbrev gE7 (c : List V) (e : TypeId) (sp : Bool) (X C : O) (m : Nat → Nat) : St := ⟨frm 44 [], 44, hP X (.cells c e sp) C m, []⟩
theorem mi7 (w : World) {c : List V} {e : TypeId} {sp : Bool} {X C : O} {o : Nat} {cap : Option Nat} {l : List Sp} (R : Row2 c o l) (sX : SameO (kP []).ρ X) (sC : SameO (kP []).ρ C) {nn : Nat} (hn : nn = 1 ∨ nn = 2) {k b : Nat} (hk : k < l.length) (hb : l[k].2 = (b : Int)) (hb2 : b ≤ 40000) :
    ∀ (d q : Nat) (m : Nat → Nat), q + d = b → (∀ q, m q ≤ 3) → LTri (En 9) w 10 true (rnd Tryz.f113 2) (gI7 c e sp X C o l.length cap nn k q m) (.exit 2) (gO7 c e sp X C o l.length cap nn k (markF (seg q b) nn m)) := by
  intro d
  induction d with
  | zero =>
    intro q m hq hm
    rw [seg_end nn m (by omega)]
    exact LTri.leave (fun h => by cases h) (Tri.of_pass (S := [(22, .ix k), (24, .ld (int l[k].2)), (25, .eq (boo false))]) (kP [0, 1, 2, 6]) mixedP nocall_ok
      [(k : Int) = (k : Int), k < l.length, c[o + k * 2 + 1]? = some (int l[k].2), boo (decide ((q : Int) < l[k].2)) = boo false, SameO (kP []).ρ X, SameO (kP []).ρ (.cells c e sp), SameO (kP []).ρ C, SameO (kP []).ρ (.cells (vs m) 3 false)] (by kernel_rfl) ⟨rfl, hk, R.at1 hk, dec_f (by omega), sX, sameO R.flat, sC, sameO (vs_flat m)⟩)
  | succ d ih =>
    intro q m hq hm
    have hq1 : q < 40001 := by omega
    by_cases hz : m q / nn % 2 = 0
    · have ho : orI (m q) nn = m q + nn := if_pos hz
      have i1 := ih (q + 1) (upd m q (orI (m q) nn)) (by omega) (fun p => by unfold upd; split; exact orI_le (hm q) hn; exact hm p)
      rw [seg_step nn hn m (by omega)] at i1
      rw [ho] at i1
      refine LTri.pass ?_ i1
      have hx := hm q
      exact Tri.of_pass (S := [(22, .ix k), (24, .ld (int l[k].2)), (25, .eq (boo true)), (30, .ix q), (31, .ld (int (m q))), (33, .eq (int 0)), (34, .eq (boo true)), (39, .ix q), (40, .ld (int (m q))), (42, .eq (int (m q + nn : Nat))), (43, .ix q), (100043, .st (vs (upd m q (m q + nn)))), (27, .eq (int (q + 1 : Nat)))]) (kP [0, 1, 2, 6, 7]) mixedP nocall_ok
        [(k : Int) = (k : Int), k < l.length, c[o + k * 2 + 1]? = some (int l[k].2), boo (decide ((q : Int) < l[k].2)) = boo true, (q : Int) = (q : Int), q < 40001, (vs m)[0 + q * 1]? = some (int (m q)),
          int (IntKind.i64.wrap ((Nat.bitwise and (BitVec.ofInt IntKind.i64.bits (m q : Int)).toNat (BitVec.ofInt IntKind.i64.bits (nn : Int)).toNat : Nat) : Int)) = int 0, boo true = boo true, (q : Int) = (q : Int), q < 40001, (vs m)[0 + q * 1]? = some (int (m q)),
          int (IntKind.i64.wrap ((m q : Int) + (nn : Int))) = int (m q + nn : Nat), (q : Int) = (q : Int), q < 40001, 0 + q * 1 + [int (m q + nn : Nat)].length ≤ (vs m).length,
          (vs m).take (0 + q * 1) ++ [int (m q + nn : Nat)] ++ (vs m).drop (0 + q * 1 + [int (m q + nn : Nat)].length) = vs (upd m q (m q + nn)), int (IntKind.i64.wrap ((q : Int) + 1)) = int (q + 1 : Nat), SameO (kP []).ρ X, SameO (kP []).ρ (.cells c e sp), SameO (kP []).ρ C, SameO (kP []).ρ (.cells (vs (upd m q (m q + nn))) 3 false)] (by kernel_rfl)
        ⟨rfl, hk, R.at1 hk, dec_t (by omega), rfl, hq1, vs_at m hq1, int_eq (and_zero hx hn hz), rfl, rfl, hq1, vs_at m hq1, int_eq (by rw [wrap_id (by omega) (by omega)]; omega), rfl, hq1, by rw [vs_len]; simp; omega, vs_set m _ hq1, hwr (by omega), sX, sameO R.flat, sC, sameO (vs_flat _)⟩
    · have ho : orI (m q) nn = m q := if_neg hz
      have i1 := ih (q + 1) (upd m q (orI (m q) nn)) (by omega) (fun p => by unfold upd; split; exact orI_le (hm q) hn; exact hm p)
      rw [seg_step nn hn m (by omega)] at i1
      rw [ho, upd_self m q] at i1
      refine LTri.pass ?_ i1
      exact Tri.of_pass (S := [(22, .ix k), (24, .ld (int l[k].2)), (25, .eq (boo true)), (30, .ix q), (31, .ld (int (m q))), (33, .eq (int nn)), (34, .eq (boo false)), (27, .eq (int (q + 1 : Nat)))]) (kP [0, 1, 2, 6, 7]) mixedP nocall_ok
        [(k : Int) = (k : Int), k < l.length, c[o + k * 2 + 1]? = some (int l[k].2), boo (decide ((q : Int) < l[k].2)) = boo true, (q : Int) = (q : Int), q < 40001, (vs m)[0 + q * 1]? = some (int (m q)),
          int (IntKind.i64.wrap ((Nat.bitwise and (BitVec.ofInt IntKind.i64.bits (m q : Int)).toNat (BitVec.ofInt IntKind.i64.bits (nn : Int)).toNat : Nat) : Int)) = int nn, boo ((nn : Int) == 0) = boo false, int (IntKind.i64.wrap ((q : Int) + 1)) = int (q + 1 : Nat), SameO (kP []).ρ X, SameO (kP []).ρ (.cells c e sp), SameO (kP []).ρ C, SameO (kP []).ρ (.cells (vs m) 3 false)] (by kernel_rfl)
        ⟨rfl, hk, R.at1 hk, dec_t (by omega), rfl, hq1, vs_at m hq1, int_eq (and_one (hm q) hn hz), boo_eq (beq_eq_false_iff_ne.2 (by omega)), hwr (by omega), sX, sameO R.flat, sC, sameO (vs_flat _)⟩
theorem mo7 (w : World) {c : List V} {e : TypeId} {sp : Bool} {X C : O} {o : Nat} {cap : Option Nat} {l : List Sp} (R : Row2 c o l) (hl : l.length ≤ 1000000) (hv : ∀ s ∈ l, spanE s = 0) (sX : SameO (kP []).ρ X) (sC : SameO (kP []).ρ C) {nn : Nat} (hn : nn = 1 ∨ nn = 2) :
    ∀ (d k : Nat) (m : Nat → Nat), k + d = l.length → (∀ q, m q ≤ 3) → LTri (En 9) w 10 true (rnd Tryz.f113 0) (gO7 c e sp X C o l.length cap nn k m) (.exit 0) (gE7 c e sp X C (markF (cov (l.drop k)) nn m)) := by
  intro d
  induction d with
  | zero =>
    intro k m hk hm
    rw [List.drop_eq_nil_of_le (by omega), show markF (cov []) nn m = m from rfl]
    exact LTri.leave (fun h => by cases h) (Tri.of_pass (S := [(11, .eq (boo false))]) (kP []) mixedP nocall_ok [boo (decide ((k : Int) < (l.length : Int))) = boo false, SameO (kP []).ρ X, SameO (kP []).ρ (.cells c e sp), SameO (kP []).ρ C, SameO (kP []).ρ (.cells (vs m) 3 false)] (by kernel_rfl) ⟨dec_f (by omega), sX, sameO R.flat, sC, sameO (vs_flat m)⟩)
  | succ d ih =>
    intro k m hk hm
    have hlt : k < l.length := by omega
    have hd : l.drop k = l[k] :: l.drop (k + 1) := List.drop_eq_getElem_cons hlt
    obtain ⟨s1, s2, s3⟩ := spanE_zero (hv l[k] (List.getElem_mem _))
    obtain ⟨a, ha⟩ : ∃ a : Nat, l[k].1 = (a : Int) := ⟨l[k].1.toNat, by omega⟩
    obtain ⟨b, hb⟩ : ∃ b : Nat, l[k].2 = (b : Int) := ⟨l[k].2.toNat, by omega⟩
    have i1 := ih (k + 1) (markF (seg a b) nn m) (by omega) (markF_le hn hm)
    rw [hd, ← cov_step l[k] _ nn hn m ha hb]
    refine LTri.pass ?_ i1
    exact Tri.of_pass (S := [(11, .eq (boo true)), (16, .ix k), (18, .ld (int a)), (400002, .code (kP [0, 1, 2, 6, 7]) .norm (gO7 c e sp X C o l.length cap nn k (markF (seg a b) nn m))), (13, .eq (int (k + 1 : Nat)))]) (kP [0, 1, 2, 6]) mixedP nocall_ok
      [boo (decide ((k : Int) < (l.length : Int))) = boo true, (k : Int) = (k : Int), k < l.length, c[o + k * 2 + 0]? = some (int a), SameO (kP []).ρ X, SameO (kP []).ρ (.cells c e sp), SameO (kP []).ρ C, SameO (kP []).ρ (.cells (vs m) 3 false),
        Tri (En 9) w 10 true (blk Tryz.f113 2) (gI7 c e sp X C o l.length cap nn k a m) .norm (gO7 c e sp X C o l.length cap nn k (markF (seg a b) nn m)), int (IntKind.i64.wrap ((k : Int) + 1)) = int (k + 1 : Nat), SameO (kP []).ρ X, SameO (kP []).ρ (.cells c e sp), SameO (kP []).ρ C, SameO (kP []).ρ (.cells (vs (markF (seg a b) nn m)) 3 false)] (by kernel_rfl)
      ⟨dec_t (by omega), rfl, hlt, ha ▸ R.at0 hlt, sX, sameO R.flat, sC, sameO (vs_flat m), Tri.rnd blk113i (mi7 w R sX sC hn hlt hb (by omega) (b - a) a m (by omega) hm), hwr (by omega), sX, sameO R.flat, sC, sameO (vs_flat _)⟩
theorem marks7 (w : World) {c : List V} {e : TypeId} {sp : Bool} {X C : O} {o : Nat} {cap : Option Nat} {l : List Sp} (R : Row2 c o l) (hl : l.length ≤ 1000000) (hv : ∀ s ∈ l, spanE s = 0) (sX : SameO (kP []).ρ X) (sC : SameO (kP []).ρ C) {nn : Nat} (hn : nn = 1 ∨ nn = 2) {m : Nat → Nat} (hm : ∀ q, m q ≤ 3) :
    FnOK (En 9) w 113 [.sl 9 0 40001 1 (some 40001), .sl 7 o l.length 2 cap, int nn] (hP X (.cells c e sp) C m) (.tup []) (hP X (.cells c e sp) C (markF (cov l) nn m)) :=
  FnOK.of_sfun mixedP noGo Tryz.func113 [(400000, .code (kP [0, 1, 2, 6]) .norm (gE7 c e sp X C (markF (cov l) nn m)))]
    [SameO (kP []).ρ X, SameO (kP []).ρ (.cells c e sp), SameO (kP []).ρ C, SameO (kP []).ρ (.cells (vs m) 3 false), Tri (En 9) w 10 true (blk Tryz.f113 0) (gO7 c e sp X C o l.length cap nn 0 m) .norm (gE7 c e sp X C (markF (cov l) nn m))] (by kernel_rfl) ⟨sX, sameO R.flat, sC, sameO (vs_flat m), Tri.rnd blk113o (mo7 w R hl hv sX sC hn l.length 0 m (by omega) hm)⟩

/-- No list. -/
theorem marks_nil (w : World) {A B C : O} (m : Nat → Nat) (nn : Nat) : FnOK (En 9) w 113 [.sl 9 0 40001 1 (some 40001), .sc (.slice none 0 0), int nn] (hP A B C m) (.tup []) (hP A B C m) :=
  FnOK.of_sfun mixedP noGo Tryz.func113 [] [] (by kernel_rfl) trivial
/-! ### The runs -/
def scanF (K : Nat → Bool) : Nat → Nat → Option Nat → List Sp → List Sp
  | 0, _, _, out => out
  | d + 1, t, st, out => match K t, st with
    | true, none => scanF K d (t + 1) (some t) out
    | true, some s => scanF K d (t + 1) (some s) out
    | false, none => scanF K d (t + 1) none out
    | false, some s => scanF K d (t + 1) none (out ++ [((s : Int), (t : Int))])
def wantK (m : Nat → Nat) (want : List Int) (t : Nat) : Bool := (m t != 0) && want.contains (m t : Int)
def stV : Option Nat → Int
  | none => -1
  | some s => s
noncomputable def outV : List Sp → V
  | [] => .sc (.slice none 0 0)
  | s :: r => .sl 10 0 (r.length + 1) 2 none
noncomputable def outH (A B C : O) (m : Nat → Nat) : List Sp → Hp
  | [] => ⟨10, mkH [(6, A), (7, B), (8, C), (9, .cells (vs m) 3 false)]⟩
  | s :: r => ⟨11, mkH [(6, A), (7, B), (8, C), (9, .cells (vs m) 3 false), (10, .cells (encS (s :: r)) 23 true)]⟩
noncomputable abbrev oW (want : List Int) (ew : TypeId) (sw : Bool) : O := .cells (want.map int) ew sw
noncomputable abbrev pk (A B : O) (want : List Int) (ew : TypeId) (sw : Bool) (cap : Option Nat) (m : Nat → Nat) (t : Nat) (st : Option Nat) (out : List Sp) : St := ⟨frm 55 [(2, .sl 8 0 want.length 1 cap), (6, .sc (.slice none 0 0)), (7, .sl 9 0 40001 1 (some 40001)), (8, outV out), (9, int (stV st)), (10, int t)], 55, outH A B (oW want ew sw) m out, []⟩
noncomputable abbrev pkE (A B : O) (want : List Int) (ew : TypeId) (sw : Bool) (m : Nat → Nat) (out : List Sp) : St := ⟨frm 55 [(6, .sc (.slice none 0 0)), (8, outV out)], 55, outH A B (oW want ew sw) m out, []⟩
abbrev kQ0 (keep : List Nat) : Wk := ⟨9, [(6, 6, true), (7, 7, true), (8, 8, true), (9, 9, true)], keep, [], 10⟩
abbrev kQ1 (keep : List Nat) : Wk := ⟨9, [(6, 6, true), (7, 7, true), (8, 8, true), (9, 9, true), (10, 10, true)], keep, [], 11⟩
abbrev kQa (keep : List Nat) : Wk := ⟨9, [(6, 6, true), (7, 7, true), (8, 8, true), (9, 9, true), (11, 10, true)], keep, [], 11⟩
abbrev kQb (keep : List Nat) : Wk := ⟨9, [(6, 6, true), (7, 7, true), (8, 8, true), (9, 9, true), (12, 10, true)], keep, [], 11⟩
abbrev keeps : List Nat := [2, 6, 7, 8, 9, 10]
theorem encS_snoc (l : List Sp) (a b : Int) : (encS l).take (l.length * 2) ++ [int a, int b] = encS (l ++ [(a, b)]) := by
  rw [List.take_of_length_le (by rw [encS_len]; omega), encS_app]
  rfl
theorem snoc_cons (s : Sp) (r : List Sp) (x : Sp) : s :: r ++ [x] = s :: (r ++ [x]) := rfl
/-- Objects that name no block. -/
def FlatO (o : O) : Prop := ∃ c e sp, o = .cells c e sp ∧ FlatC c
theorem FlatO.same {ρ : Nat → Option Nat} {o : O} (h : FlatO o) : SameO ρ o := by
  obtain ⟨c, e, sp, rfl, hc⟩ := h
  exact sameO hc
theorem FlatO.flat {o : O} (h : FlatO o) : Flat o := by
  obtain ⟨c, e, sp, rfl, hc⟩ := h
  exact flatO hc

theorem pk_end (w : World) {A B : O} (hA : FlatO A) (hB : FlatO B) (want : List Int) (ew : TypeId) (sw : Bool) (cap : Option Nat) (m : Nat → Nat) (st : Option Nat) (out : List Sp) : Tri (En 9) w 9 true (rnd Tryz.f74 0) (pk A B want ew sw cap m 40001 st out) (.exit 0) (pkE A B want ew sw m out) := by
  cases out with
  | nil => exact Tri.of_pass (S := [(20, .eq (boo false))]) (kQ0 [6, 8]) mixedP nocall_ok [boo (decide (((40001 : Nat) : Int) ≤ 40000)) = boo false, SameO (kQ0 []).ρ A, SameO (kQ0 []).ρ B, SameO (kQ0 []).ρ (oW want ew sw), SameO (kQ0 []).ρ (.cells (vs m) 3 false)] (by kernel_rfl) ⟨rfl, hA.same, hB.same, sameO (intc _ rfl), sameO (vs_flat m)⟩
  | cons s r => exact Tri.of_pass (S := [(20, .eq (boo false))]) (kQ1 [6, 8]) mixedP nocall_ok [boo (decide (((40001 : Nat) : Int) ≤ 40000)) = boo false, SameO (kQ1 []).ρ A, SameO (kQ1 []).ρ B, SameO (kQ1 []).ρ (oW want ew sw), SameO (kQ1 []).ρ (.cells (vs m) 3 false), SameO (kQ1 []).ρ (.cells (encS (s :: r)) 23 true)] (by kernel_rfl) ⟨rfl, hA.same, hB.same, sameO (intc _ rfl), sameO (vs_flat m), sameO (encS_flat _)⟩

theorem pk_k0 (w : World) {A B : O} (hA : FlatO A) (hB : FlatO B) (want : List Int) (ew : TypeId) (sw : Bool) (cap : Option Nat) (m : Nat → Nat) (hw : want.length ≤ 1000000) {t : Nat} (ht : t < 40001) (out : List Sp) (hz : m t ≠ 0) (hc : want.contains (m t : Int) = true) : Tri (En 9) w 9 true (rnd Tryz.f74 0) (pk A B want ew sw cap m t none out) .norm (pk A B want ew sw cap m (t + 1) (some t) out) := by
  cases out with
  | nil =>
    exact Tri.of_pass (S := [(20, .eq (boo true)), (25, .ix t), (26, .ld (int (m t))), (27, .eq (boo true)), (32, .ix t), (33, .ld (int (m t))), (34, .cv (boo true)), (22, .eq (int (t + 1 : Nat)))]) (kQ0 keeps) mixedP nocall_ok
      [boo (decide ((t : Int) ≤ 40000)) = boo true, (t : Int) = (t : Int), t < 40001, (vs m)[0 + t * 1]? = some (int (m t)), boo ((m t : Int) != 0) = boo true, (t : Int) = (t : Int), t < 40001, (vs m)[0 + t * 1]? = some (int (m t)), CvOK (En 9) w 114 [.sl 8 0 want.length 1 cap, int (m t)] [(8, oW want ew sw)] (boo true), int (IntKind.i64.wrap ((t : Int) + 1)) = int (t + 1 : Nat), SameO (kQ0 []).ρ A, SameO (kQ0 []).ρ B, SameO (kQ0 []).ρ (oW want ew sw), SameO (kQ0 []).ρ (.cells (vs m) 3 false)] (by kernel_rfl)
      ⟨dec_t (by omega), rfl, ht, vs_at m ht, boo_eq (by simp [bne]; omega), rfl, ht, vs_at m ht, HasInt_cv (by omega) hw hc, hwr (by omega), hA.same, hB.same, sameO (intc _ rfl), sameO (vs_flat m)⟩
  | cons s0 r =>
    exact Tri.of_pass (S := [(20, .eq (boo true)), (25, .ix t), (26, .ld (int (m t))), (27, .eq (boo true)), (32, .ix t), (33, .ld (int (m t))), (34, .cv (boo true)), (22, .eq (int (t + 1 : Nat)))]) (kQ1 keeps) mixedP nocall_ok
      [boo (decide ((t : Int) ≤ 40000)) = boo true, (t : Int) = (t : Int), t < 40001, (vs m)[0 + t * 1]? = some (int (m t)), boo ((m t : Int) != 0) = boo true, (t : Int) = (t : Int), t < 40001, (vs m)[0 + t * 1]? = some (int (m t)), CvOK (En 9) w 114 [.sl 8 0 want.length 1 cap, int (m t)] [(8, oW want ew sw)] (boo true), int (IntKind.i64.wrap ((t : Int) + 1)) = int (t + 1 : Nat), SameO (kQ1 []).ρ A, SameO (kQ1 []).ρ B, SameO (kQ1 []).ρ (oW want ew sw), SameO (kQ1 []).ρ (.cells (vs m) 3 false), SameO (kQ1 []).ρ (.cells (encS (s0 :: r)) 23 true)] (by kernel_rfl)
      ⟨dec_t (by omega), rfl, ht, vs_at m ht, boo_eq (by simp [bne]; omega), rfl, ht, vs_at m ht, HasInt_cv (by omega) hw hc, hwr (by omega), hA.same, hB.same, sameO (intc _ rfl), sameO (vs_flat m), sameO (encS_flat _)⟩

theorem pk_k1 (w : World) {A B : O} (hA : FlatO A) (hB : FlatO B) (want : List Int) (ew : TypeId) (sw : Bool) (cap : Option Nat) (m : Nat → Nat) (hw : want.length ≤ 1000000) {t : Nat} (ht : t < 40001) (s : Nat) (out : List Sp) (hz : m t ≠ 0) (hc : want.contains (m t : Int) = true) : Tri (En 9) w 9 true (rnd Tryz.f74 0) (pk A B want ew sw cap m t (some s) out) .norm (pk A B want ew sw cap m (t + 1) (some s) out) := by
  cases out with
  | nil =>
    exact Tri.of_pass (S := [(20, .eq (boo true)), (25, .ix t), (26, .ld (int (m t))), (27, .eq (boo true)), (32, .ix t), (33, .ld (int (m t))), (34, .cv (boo true)), (39, .eq (boo false)), (22, .eq (int (t + 1 : Nat)))]) (kQ0 keeps) mixedP nocall_ok
      [boo (decide ((t : Int) ≤ 40000)) = boo true, (t : Int) = (t : Int), t < 40001, (vs m)[0 + t * 1]? = some (int (m t)), boo ((m t : Int) != 0) = boo true, (t : Int) = (t : Int), t < 40001, (vs m)[0 + t * 1]? = some (int (m t)), CvOK (En 9) w 114 [.sl 8 0 want.length 1 cap, int (m t)] [(8, oW want ew sw)] (boo true), boo (decide ((s : Int) < 0)) = boo false, int (IntKind.i64.wrap ((t : Int) + 1)) = int (t + 1 : Nat), SameO (kQ0 []).ρ A, SameO (kQ0 []).ρ B, SameO (kQ0 []).ρ (oW want ew sw), SameO (kQ0 []).ρ (.cells (vs m) 3 false)] (by kernel_rfl)
      ⟨dec_t (by omega), rfl, ht, vs_at m ht, boo_eq (by simp [bne]; omega), rfl, ht, vs_at m ht, HasInt_cv (by omega) hw hc, dec_f (by omega), hwr (by omega), hA.same, hB.same, sameO (intc _ rfl), sameO (vs_flat m)⟩
  | cons s0 r =>
    exact Tri.of_pass (S := [(20, .eq (boo true)), (25, .ix t), (26, .ld (int (m t))), (27, .eq (boo true)), (32, .ix t), (33, .ld (int (m t))), (34, .cv (boo true)), (39, .eq (boo false)), (22, .eq (int (t + 1 : Nat)))]) (kQ1 keeps) mixedP nocall_ok
      [boo (decide ((t : Int) ≤ 40000)) = boo true, (t : Int) = (t : Int), t < 40001, (vs m)[0 + t * 1]? = some (int (m t)), boo ((m t : Int) != 0) = boo true, (t : Int) = (t : Int), t < 40001, (vs m)[0 + t * 1]? = some (int (m t)), CvOK (En 9) w 114 [.sl 8 0 want.length 1 cap, int (m t)] [(8, oW want ew sw)] (boo true), boo (decide ((s : Int) < 0)) = boo false, int (IntKind.i64.wrap ((t : Int) + 1)) = int (t + 1 : Nat), SameO (kQ1 []).ρ A, SameO (kQ1 []).ρ B, SameO (kQ1 []).ρ (oW want ew sw), SameO (kQ1 []).ρ (.cells (vs m) 3 false), SameO (kQ1 []).ρ (.cells (encS (s0 :: r)) 23 true)] (by kernel_rfl)
      ⟨dec_t (by omega), rfl, ht, vs_at m ht, boo_eq (by simp [bne]; omega), rfl, ht, vs_at m ht, HasInt_cv (by omega) hw hc, dec_f (by omega), hwr (by omega), hA.same, hB.same, sameO (intc _ rfl), sameO (vs_flat m), sameO (encS_flat _)⟩

theorem pk_z0 (w : World) {A B : O} (hA : FlatO A) (hB : FlatO B) (want : List Int) (ew : TypeId) (sw : Bool) (cap : Option Nat) (m : Nat → Nat) (hw : want.length ≤ 1000000) {t : Nat} (ht : t < 40001) (out : List Sp) (hz : m t = 0) : Tri (En 9) w 9 true (rnd Tryz.f74 0) (pk A B want ew sw cap m t none out) .norm (pk A B want ew sw cap m (t + 1) none out) := by
  cases out with
  | nil =>
    exact Tri.of_pass (S := [(20, .eq (boo true)), (25, .ix t), (26, .ld (int (m t))), (27, .eq (boo false)), (22, .eq (int (t + 1 : Nat)))]) (kQ0 keeps) mixedP nocall_ok
      [boo (decide ((t : Int) ≤ 40000)) = boo true, (t : Int) = (t : Int), t < 40001, (vs m)[0 + t * 1]? = some (int (m t)), boo ((m t : Int) != 0) = boo false, int (IntKind.i64.wrap ((t : Int) + 1)) = int (t + 1 : Nat), SameO (kQ0 []).ρ A, SameO (kQ0 []).ρ B, SameO (kQ0 []).ρ (oW want ew sw), SameO (kQ0 []).ρ (.cells (vs m) 3 false)] (by kernel_rfl)
      ⟨dec_t (by omega), rfl, ht, vs_at m ht, boo_eq (by rw [hz]; rfl), hwr (by omega), hA.same, hB.same, sameO (intc _ rfl), sameO (vs_flat m)⟩
  | cons s0 r =>
    exact Tri.of_pass (S := [(20, .eq (boo true)), (25, .ix t), (26, .ld (int (m t))), (27, .eq (boo false)), (22, .eq (int (t + 1 : Nat)))]) (kQ1 keeps) mixedP nocall_ok
      [boo (decide ((t : Int) ≤ 40000)) = boo true, (t : Int) = (t : Int), t < 40001, (vs m)[0 + t * 1]? = some (int (m t)), boo ((m t : Int) != 0) = boo false, int (IntKind.i64.wrap ((t : Int) + 1)) = int (t + 1 : Nat), SameO (kQ1 []).ρ A, SameO (kQ1 []).ρ B, SameO (kQ1 []).ρ (oW want ew sw), SameO (kQ1 []).ρ (.cells (vs m) 3 false), SameO (kQ1 []).ρ (.cells (encS (s0 :: r)) 23 true)] (by kernel_rfl)
      ⟨dec_t (by omega), rfl, ht, vs_at m ht, boo_eq (by rw [hz]; rfl), hwr (by omega), hA.same, hB.same, sameO (intc _ rfl), sameO (vs_flat m), sameO (encS_flat _)⟩

theorem pk_z1 (w : World) {A B : O} (hA : FlatO A) (hB : FlatO B) (want : List Int) (ew : TypeId) (sw : Bool) (cap : Option Nat) (m : Nat → Nat) (hw : want.length ≤ 1000000) {t : Nat} (ht : t < 40001) (s : Nat) (out : List Sp) (hb : out.length ≤ 1000000) (hz : m t = 0) : Tri (En 9) w 9 true (rnd Tryz.f74 0) (pk A B want ew sw cap m t (some s) out) .norm (pk A B want ew sw cap m (t + 1) none (out ++ [((s : Int), (t : Int))])) := by
  cases out with
  | nil =>
    exact Tri.of_pass (S := [(20, .eq (boo true)), (25, .ix t), (26, .ld (int (m t))), (27, .eq (boo false)), (46, .eq (boo true)), (22, .eq (int (t + 1 : Nat)))]) (kQa keeps) mixedP nocall_ok
      [boo (decide ((t : Int) ≤ 40000)) = boo true, (t : Int) = (t : Int), t < 40001, (vs m)[0 + t * 1]? = some (int (m t)), boo ((m t : Int) != 0) = boo false, boo (decide ((0 : Int) ≤ (s : Int))) = boo true, int (IntKind.i64.wrap ((t : Int) + 1)) = int (t + 1 : Nat), SameO (kQa []).ρ A, SameO (kQa []).ρ B, SameO (kQa []).ρ (oW want ew sw), SameO (kQa []).ρ (.cells (vs m) 3 false), SameO (kQa []).ρ (.cells (encS [((s : Int), (t : Int))]) 23 true)] (by kernel_rfl)
      ⟨dec_t (by omega), rfl, ht, vs_at m ht, boo_eq (by rw [hz]; rfl), dec_t (by omega), hwr (by omega), hA.same, hB.same, sameO (intc _ rfl), sameO (vs_flat m), sameO (encS_flat _)⟩
  | cons s0 r =>
    rw [snoc_cons]
    have hsn := encS_snoc (s0 :: r) s t
    rw [snoc_cons] at hsn
    have hlen : r.length + 1 + 1 = (r ++ [((s : Int), (t : Int))]).length + 1 := by simp
    unfold pk outV outH
    simp only []
    rw [← hlen]
    exact Tri.of_pass (S := [(20, .eq (boo true)), (25, .ix t), (26, .ld (int (m t))), (27, .eq (boo false)), (46, .eq (boo true)), (53, .ap (encS (s0 :: (r ++ [((s : Int), (t : Int))])))), (22, .eq (int (t + 1 : Nat)))]) (kQb keeps) mixedP nocall_ok
      [boo (decide ((t : Int) ≤ 40000)) = boo true, (t : Int) = (t : Int), t < 40001, (vs m)[0 + t * 1]? = some (int (m t)), boo ((m t : Int) != 0) = boo false, boo (decide ((0 : Int) ≤ (s : Int))) = boo true, r.length + 1 + 1 ≤ 1048576, (r.length + 1) * 2 ≤ (encS (s0 :: r)).length, (encS (s0 :: r)).take ((r.length + 1) * 2) ++ [int (s : Int), int (t : Int)] = (encS (s0 :: (r ++ [((s : Int), (t : Int))]))), int (IntKind.i64.wrap ((t : Int) + 1)) = int (t + 1 : Nat), SameO (kQb []).ρ A, SameO (kQb []).ρ B, SameO (kQb []).ρ (oW want ew sw), SameO (kQb []).ρ (.cells (vs m) 3 false), SameO (kQb []).ρ (.cells (encS (s0 :: (r ++ [((s : Int), (t : Int))]))) 23 true)] (by kernel_rfl)
      ⟨dec_t (by omega), rfl, ht, vs_at m ht, boo_eq (by rw [hz]; rfl), dec_t (by omega), by simp at hb; omega, by rw [encS_len]; simp, hsn, hwr (by omega), hA.same, hB.same, sameO (intc _ rfl), sameO (vs_flat m), sameO (encS_flat _)⟩

theorem pk_n0 (w : World) {A B : O} (hA : FlatO A) (hB : FlatO B) (want : List Int) (ew : TypeId) (sw : Bool) (cap : Option Nat) (m : Nat → Nat) (hw : want.length ≤ 1000000) {t : Nat} (ht : t < 40001) (out : List Sp) (hz : m t ≠ 0) (hc : want.contains (m t : Int) = false) : Tri (En 9) w 9 true (rnd Tryz.f74 0) (pk A B want ew sw cap m t none out) .norm (pk A B want ew sw cap m (t + 1) none out) := by
  cases out with
  | nil =>
    exact Tri.of_pass (S := [(20, .eq (boo true)), (25, .ix t), (26, .ld (int (m t))), (27, .eq (boo true)), (32, .ix t), (33, .ld (int (m t))), (34, .cv (boo false)), (22, .eq (int (t + 1 : Nat)))]) (kQ0 keeps) mixedP nocall_ok
      [boo (decide ((t : Int) ≤ 40000)) = boo true, (t : Int) = (t : Int), t < 40001, (vs m)[0 + t * 1]? = some (int (m t)), boo ((m t : Int) != 0) = boo true, (t : Int) = (t : Int), t < 40001, (vs m)[0 + t * 1]? = some (int (m t)), CvOK (En 9) w 114 [.sl 8 0 want.length 1 cap, int (m t)] [(8, oW want ew sw)] (boo false), int (IntKind.i64.wrap ((t : Int) + 1)) = int (t + 1 : Nat), SameO (kQ0 []).ρ A, SameO (kQ0 []).ρ B, SameO (kQ0 []).ρ (oW want ew sw), SameO (kQ0 []).ρ (.cells (vs m) 3 false)] (by kernel_rfl)
      ⟨dec_t (by omega), rfl, ht, vs_at m ht, boo_eq (by simp [bne]; omega), rfl, ht, vs_at m ht, HasInt_cv (by omega) hw hc, hwr (by omega), hA.same, hB.same, sameO (intc _ rfl), sameO (vs_flat m)⟩
  | cons s0 r =>
    exact Tri.of_pass (S := [(20, .eq (boo true)), (25, .ix t), (26, .ld (int (m t))), (27, .eq (boo true)), (32, .ix t), (33, .ld (int (m t))), (34, .cv (boo false)), (22, .eq (int (t + 1 : Nat)))]) (kQ1 keeps) mixedP nocall_ok
      [boo (decide ((t : Int) ≤ 40000)) = boo true, (t : Int) = (t : Int), t < 40001, (vs m)[0 + t * 1]? = some (int (m t)), boo ((m t : Int) != 0) = boo true, (t : Int) = (t : Int), t < 40001, (vs m)[0 + t * 1]? = some (int (m t)), CvOK (En 9) w 114 [.sl 8 0 want.length 1 cap, int (m t)] [(8, oW want ew sw)] (boo false), int (IntKind.i64.wrap ((t : Int) + 1)) = int (t + 1 : Nat), SameO (kQ1 []).ρ A, SameO (kQ1 []).ρ B, SameO (kQ1 []).ρ (oW want ew sw), SameO (kQ1 []).ρ (.cells (vs m) 3 false), SameO (kQ1 []).ρ (.cells (encS (s0 :: r)) 23 true)] (by kernel_rfl)
      ⟨dec_t (by omega), rfl, ht, vs_at m ht, boo_eq (by simp [bne]; omega), rfl, ht, vs_at m ht, HasInt_cv (by omega) hw hc, hwr (by omega), hA.same, hB.same, sameO (intc _ rfl), sameO (vs_flat m), sameO (encS_flat _)⟩

theorem pk_n1 (w : World) {A B : O} (hA : FlatO A) (hB : FlatO B) (want : List Int) (ew : TypeId) (sw : Bool) (cap : Option Nat) (m : Nat → Nat) (hw : want.length ≤ 1000000) {t : Nat} (ht : t < 40001) (s : Nat) (out : List Sp) (hb : out.length ≤ 1000000) (hz : m t ≠ 0) (hc : want.contains (m t : Int) = false) : Tri (En 9) w 9 true (rnd Tryz.f74 0) (pk A B want ew sw cap m t (some s) out) .norm (pk A B want ew sw cap m (t + 1) none (out ++ [((s : Int), (t : Int))])) := by
  cases out with
  | nil =>
    exact Tri.of_pass (S := [(20, .eq (boo true)), (25, .ix t), (26, .ld (int (m t))), (27, .eq (boo true)), (32, .ix t), (33, .ld (int (m t))), (34, .cv (boo false)), (46, .eq (boo true)), (22, .eq (int (t + 1 : Nat)))]) (kQa keeps) mixedP nocall_ok
      [boo (decide ((t : Int) ≤ 40000)) = boo true, (t : Int) = (t : Int), t < 40001, (vs m)[0 + t * 1]? = some (int (m t)), boo ((m t : Int) != 0) = boo true, (t : Int) = (t : Int), t < 40001, (vs m)[0 + t * 1]? = some (int (m t)), CvOK (En 9) w 114 [.sl 8 0 want.length 1 cap, int (m t)] [(8, oW want ew sw)] (boo false), boo (decide ((0 : Int) ≤ (s : Int))) = boo true, int (IntKind.i64.wrap ((t : Int) + 1)) = int (t + 1 : Nat), SameO (kQa []).ρ A, SameO (kQa []).ρ B, SameO (kQa []).ρ (oW want ew sw), SameO (kQa []).ρ (.cells (vs m) 3 false), SameO (kQa []).ρ (.cells (encS [((s : Int), (t : Int))]) 23 true)] (by kernel_rfl)
      ⟨dec_t (by omega), rfl, ht, vs_at m ht, boo_eq (by simp [bne]; omega), rfl, ht, vs_at m ht, HasInt_cv (by omega) hw hc, dec_t (by omega), hwr (by omega), hA.same, hB.same, sameO (intc _ rfl), sameO (vs_flat m), sameO (encS_flat _)⟩
  | cons s0 r =>
    rw [snoc_cons]
    have hsn := encS_snoc (s0 :: r) s t
    rw [snoc_cons] at hsn
    have hlen : r.length + 1 + 1 = (r ++ [((s : Int), (t : Int))]).length + 1 := by simp
    unfold pk outV outH
    simp only []
    rw [← hlen]
    exact Tri.of_pass (S := [(20, .eq (boo true)), (25, .ix t), (26, .ld (int (m t))), (27, .eq (boo true)), (32, .ix t), (33, .ld (int (m t))), (34, .cv (boo false)), (46, .eq (boo true)), (53, .ap (encS (s0 :: (r ++ [((s : Int), (t : Int))])))), (22, .eq (int (t + 1 : Nat)))]) (kQb keeps) mixedP nocall_ok
      [boo (decide ((t : Int) ≤ 40000)) = boo true, (t : Int) = (t : Int), t < 40001, (vs m)[0 + t * 1]? = some (int (m t)), boo ((m t : Int) != 0) = boo true, (t : Int) = (t : Int), t < 40001, (vs m)[0 + t * 1]? = some (int (m t)), CvOK (En 9) w 114 [.sl 8 0 want.length 1 cap, int (m t)] [(8, oW want ew sw)] (boo false), boo (decide ((0 : Int) ≤ (s : Int))) = boo true, r.length + 1 + 1 ≤ 1048576, (r.length + 1) * 2 ≤ (encS (s0 :: r)).length, (encS (s0 :: r)).take ((r.length + 1) * 2) ++ [int (s : Int), int (t : Int)] = (encS (s0 :: (r ++ [((s : Int), (t : Int))]))), int (IntKind.i64.wrap ((t : Int) + 1)) = int (t + 1 : Nat), SameO (kQb []).ρ A, SameO (kQb []).ρ B, SameO (kQb []).ρ (oW want ew sw), SameO (kQb []).ρ (.cells (vs m) 3 false), SameO (kQb []).ρ (.cells (encS (s0 :: (r ++ [((s : Int), (t : Int))]))) 23 true)] (by kernel_rfl)
      ⟨dec_t (by omega), rfl, ht, vs_at m ht, boo_eq (by simp [bne]; omega), rfl, ht, vs_at m ht, HasInt_cv (by omega) hw hc, dec_t (by omega), by simp at hb; omega, by rw [encS_len]; simp, hsn, hwr (by omega), hA.same, hB.same, sameO (intc _ rfl), sameO (vs_flat m), sameO (encS_flat _)⟩

theorem pk_loop (w : World) {A B : O} (hA : FlatO A) (hB : FlatO B) (want : List Int) (ew : TypeId) (sw : Bool) (cap : Option Nat) (m : Nat → Nat) (hw : want.length ≤ 1000000) : ∀ (d t : Nat) (st : Option Nat) (out : List Sp), t + d = 40001 → out.length ≤ t →
    LTri (En 9) w 9 true (rnd Tryz.f74 0) (pk A B want ew sw cap m t st out) (.exit 0) (pkE A B want ew sw m (scanF (wantK m want) d t st out)) := by
  intro d
  induction d with
  | zero =>
    intro t st out ht _
    have : t = 40001 := by omega
    subst this
    exact LTri.leave (fun h => by cases h) (pk_end w hA hB want ew sw cap m st out)
  | succ d ih =>
    intro t st out ht hb
    have ht1 : t < 40001 := by omega
    by_cases hz : m t = 0
    · have hk : wantK m want t = false := by simp [wantK, hz]
      cases st with
      | none =>
        have i1 := ih (t + 1) none out (by omega) (by omega)
        simp only [scanF, hk]
        exact LTri.pass (pk_z0 w hA hB want ew sw cap m hw ht1 out hz) i1
      | some s =>
        have i1 := ih (t + 1) none (out ++ [((s : Int), (t : Int))]) (by omega) (by simp; omega)
        simp only [scanF, hk]
        exact LTri.pass (pk_z1 w hA hB want ew sw cap m hw ht1 s out (by omega) hz) i1
    · cases hc : want.contains (m t : Int) with
      | false =>
        have hk : wantK m want t = false := by unfold wantK; rw [hc, Bool.and_false]
        cases st with
        | none =>
          have i1 := ih (t + 1) none out (by omega) (by omega)
          simp only [scanF, hk]
          exact LTri.pass (pk_n0 w hA hB want ew sw cap m hw ht1 out hz hc) i1
        | some s =>
          have i1 := ih (t + 1) none (out ++ [((s : Int), (t : Int))]) (by omega) (by simp; omega)
          simp only [scanF, hk]
          exact LTri.pass (pk_n1 w hA hB want ew sw cap m hw ht1 s out (by omega) hz hc) i1
      | true =>
        have hk : wantK m want t = true := by unfold wantK; rw [hc, Bool.and_true]; simpa [bne] using hz
        cases st with
        | none =>
          have i1 := ih (t + 1) (some t) out (by omega) (by omega)
          simp only [scanF, hk]
          exact LTri.pass (pk_k0 w hA hB want ew sw cap m hw ht1 out hz hc) i1
        | some s =>
          have i1 := ih (t + 1) (some s) out (by omega) (by omega)
          simp only [scanF, hk]
          exact LTri.pass (pk_k1 w hA hB want ew sw cap m hw ht1 s out hz hc) i1
theorem blk74 : blk Tryz.f74 0 = .block 0 (.loop (rnd Tryz.f74 0)) := by kernel_rfl
noncomputable abbrev h3 (A B C : O) : Hp := ⟨9, mkH [(6, A), (7, B), (8, C)]⟩
abbrev zer : List V := (List.replicate 40001 [int 0]).flatten
noncomputable abbrev hZ (A B C : O) : Hp := ⟨10, mkH [(6, A), (7, B), (8, C), (9, .cells zer 3 false)]⟩
theorem hZ_eq (A B C : O) : hZ A B C = hP A B C (fun _ => 0) := by
  unfold hZ zer
  rw [vs_zero]

theorem pw_nne (w : World) {A B : O} (hA : FlatO A) (hB : FlatO B) (want : List Int) (ew : TypeId) (sw : Bool) (cap : Option Nat) (m1 m2 : Nat → Nat)
    (f1 : FnOK (En 9) w 113 [.sl 9 0 40001 1 (some 40001), .sc (.slice none 0 0), int 1] (hZ A B (oW want ew sw)) (.tup []) (hP A B (oW want ew sw) m1))
    (f2 : FnOK (En 9) w 113 [.sl 9 0 40001 1 (some 40001), .sc (.slice none 0 0), int 2] (hP A B (oW want ew sw) m1) (.tup []) (hP A B (oW want ew sw) m2))
    (hs : LTri (En 9) w 9 true (rnd Tryz.f74 0) (pk A B want ew sw cap m2 0 none []) (.exit 0) (pkE A B want ew sw m2 [])) :
    ∃ h1 : Hp, FnOK (En 9) w 74 [.sc (.slice none 0 0), .sc (.slice none 0 0), .sl 8 0 want.length 1 cap] (h3 A B (oW want ew sw)) (.sc (.slice none 0 0)) h1 :=
  FnOK.of_sfunv mixedP noGo Tryz.func74 [(15, .call (.tup []) (hP A B (oW want ew sw) m1)), (18, .call (.tup []) (hP A B (oW want ew sw) m2)), (400000, .code (kQ0 keeps) .norm (pkE A B want ew sw m2 []))]
    [FnOK (En 9) w 113 [.sl 9 0 40001 1 (some 40001), .sc (.slice none 0 0), int 1] (hZ A B (oW want ew sw)) (.tup []) (hP A B (oW want ew sw) m1),
      FnOK (En 9) w 113 [.sl 9 0 40001 1 (some 40001), .sc (.slice none 0 0), int 2] (hP A B (oW want ew sw) m1) (.tup []) (hP A B (oW want ew sw) m2),
      SameO (kQ0 []).ρ A, SameO (kQ0 []).ρ B, SameO (kQ0 []).ρ (oW want ew sw), SameO (kQ0 []).ρ (.cells (vs m2) 3 false),
      Tri (En 9) w 9 true (blk Tryz.f74 0) (pk A B want ew sw cap m2 0 none []) .norm (pkE A B want ew sw m2 [])] (by kernel_rfl)
    ⟨f1, f2, hA.same, hB.same, sameO (intc _ rfl), sameO (vs_flat m2), Tri.rnd blk74 hs⟩

theorem pw_nnc (w : World) {A B : O} (hA : FlatO A) (hB : FlatO B) (want : List Int) (ew : TypeId) (sw : Bool) (cap : Option Nat) (m1 m2 : Nat → Nat) (s : Sp) (r : List Sp)
    (f1 : FnOK (En 9) w 113 [.sl 9 0 40001 1 (some 40001), .sc (.slice none 0 0), int 1] (hZ A B (oW want ew sw)) (.tup []) (hP A B (oW want ew sw) m1))
    (f2 : FnOK (En 9) w 113 [.sl 9 0 40001 1 (some 40001), .sc (.slice none 0 0), int 2] (hP A B (oW want ew sw) m1) (.tup []) (hP A B (oW want ew sw) m2))
    (hs : LTri (En 9) w 9 true (rnd Tryz.f74 0) (pk A B want ew sw cap m2 0 none []) (.exit 0) (pkE A B want ew sw m2 (s :: r))) :
    ∃ h1 : Hp, h1.at_ 10 = some (.cells (encS (s :: r)) 23 true) ∧ FnOK (En 9) w 74 [.sc (.slice none 0 0), .sc (.slice none 0 0), .sl 8 0 want.length 1 cap] (h3 A B (oW want ew sw)) (.sl 10 0 (r.length + 1) 2 none) h1 :=
  FnOK.of_sfunb mixedP noGo Tryz.func74 [(15, .call (.tup []) (hP A B (oW want ew sw) m1)), (18, .call (.tup []) (hP A B (oW want ew sw) m2)), (400000, .code (kQ0 keeps) .norm (pkE A B want ew sw m2 (s :: r)))]
    [FnOK (En 9) w 113 [.sl 9 0 40001 1 (some 40001), .sc (.slice none 0 0), int 1] (hZ A B (oW want ew sw)) (.tup []) (hP A B (oW want ew sw) m1),
      FnOK (En 9) w 113 [.sl 9 0 40001 1 (some 40001), .sc (.slice none 0 0), int 2] (hP A B (oW want ew sw) m1) (.tup []) (hP A B (oW want ew sw) m2),
      SameO (kQ0 []).ρ A, SameO (kQ0 []).ρ B, SameO (kQ0 []).ρ (oW want ew sw), SameO (kQ0 []).ρ (.cells (vs m2) 3 false),
      Tri (En 9) w 9 true (blk Tryz.f74 0) (pk A B want ew sw cap m2 0 none []) .norm (pkE A B want ew sw m2 (s :: r))] (by kernel_rfl)
    ⟨f1, f2, hA.same, hB.same, sameO (intc _ rfl), sameO (vs_flat m2), Tri.rnd blk74 hs⟩

theorem pw_6ne (w : World) {A B : O} (hA : FlatO A) (hB : FlatO B) (want : List Int) (ew : TypeId) (sw : Bool) (cap : Option Nat) (m1 m2 : Nat → Nat) (o n : Nat) (cp : Option Nat)
    (f1 : FnOK (En 9) w 113 [.sl 9 0 40001 1 (some 40001), .sl 6 o n 2 cp, int 1] (hZ A B (oW want ew sw)) (.tup []) (hP A B (oW want ew sw) m1))
    (f2 : FnOK (En 9) w 113 [.sl 9 0 40001 1 (some 40001), .sc (.slice none 0 0), int 2] (hP A B (oW want ew sw) m1) (.tup []) (hP A B (oW want ew sw) m2))
    (hs : LTri (En 9) w 9 true (rnd Tryz.f74 0) (pk A B want ew sw cap m2 0 none []) (.exit 0) (pkE A B want ew sw m2 [])) :
    ∃ h1 : Hp, FnOK (En 9) w 74 [.sl 6 o n 2 cp, .sc (.slice none 0 0), .sl 8 0 want.length 1 cap] (h3 A B (oW want ew sw)) (.sc (.slice none 0 0)) h1 :=
  FnOK.of_sfunv mixedP noGo Tryz.func74 [(15, .call (.tup []) (hP A B (oW want ew sw) m1)), (18, .call (.tup []) (hP A B (oW want ew sw) m2)), (400000, .code (kQ0 keeps) .norm (pkE A B want ew sw m2 []))]
    [FnOK (En 9) w 113 [.sl 9 0 40001 1 (some 40001), .sl 6 o n 2 cp, int 1] (hZ A B (oW want ew sw)) (.tup []) (hP A B (oW want ew sw) m1),
      FnOK (En 9) w 113 [.sl 9 0 40001 1 (some 40001), .sc (.slice none 0 0), int 2] (hP A B (oW want ew sw) m1) (.tup []) (hP A B (oW want ew sw) m2),
      SameO (kQ0 []).ρ A, SameO (kQ0 []).ρ B, SameO (kQ0 []).ρ (oW want ew sw), SameO (kQ0 []).ρ (.cells (vs m2) 3 false),
      Tri (En 9) w 9 true (blk Tryz.f74 0) (pk A B want ew sw cap m2 0 none []) .norm (pkE A B want ew sw m2 [])] (by kernel_rfl)
    ⟨f1, f2, hA.same, hB.same, sameO (intc _ rfl), sameO (vs_flat m2), Tri.rnd blk74 hs⟩

theorem pw_6nc (w : World) {A B : O} (hA : FlatO A) (hB : FlatO B) (want : List Int) (ew : TypeId) (sw : Bool) (cap : Option Nat) (m1 m2 : Nat → Nat) (o n : Nat) (cp : Option Nat) (s : Sp) (r : List Sp)
    (f1 : FnOK (En 9) w 113 [.sl 9 0 40001 1 (some 40001), .sl 6 o n 2 cp, int 1] (hZ A B (oW want ew sw)) (.tup []) (hP A B (oW want ew sw) m1))
    (f2 : FnOK (En 9) w 113 [.sl 9 0 40001 1 (some 40001), .sc (.slice none 0 0), int 2] (hP A B (oW want ew sw) m1) (.tup []) (hP A B (oW want ew sw) m2))
    (hs : LTri (En 9) w 9 true (rnd Tryz.f74 0) (pk A B want ew sw cap m2 0 none []) (.exit 0) (pkE A B want ew sw m2 (s :: r))) :
    ∃ h1 : Hp, h1.at_ 10 = some (.cells (encS (s :: r)) 23 true) ∧ FnOK (En 9) w 74 [.sl 6 o n 2 cp, .sc (.slice none 0 0), .sl 8 0 want.length 1 cap] (h3 A B (oW want ew sw)) (.sl 10 0 (r.length + 1) 2 none) h1 :=
  FnOK.of_sfunb mixedP noGo Tryz.func74 [(15, .call (.tup []) (hP A B (oW want ew sw) m1)), (18, .call (.tup []) (hP A B (oW want ew sw) m2)), (400000, .code (kQ0 keeps) .norm (pkE A B want ew sw m2 (s :: r)))]
    [FnOK (En 9) w 113 [.sl 9 0 40001 1 (some 40001), .sl 6 o n 2 cp, int 1] (hZ A B (oW want ew sw)) (.tup []) (hP A B (oW want ew sw) m1),
      FnOK (En 9) w 113 [.sl 9 0 40001 1 (some 40001), .sc (.slice none 0 0), int 2] (hP A B (oW want ew sw) m1) (.tup []) (hP A B (oW want ew sw) m2),
      SameO (kQ0 []).ρ A, SameO (kQ0 []).ρ B, SameO (kQ0 []).ρ (oW want ew sw), SameO (kQ0 []).ρ (.cells (vs m2) 3 false),
      Tri (En 9) w 9 true (blk Tryz.f74 0) (pk A B want ew sw cap m2 0 none []) .norm (pkE A B want ew sw m2 (s :: r))] (by kernel_rfl)
    ⟨f1, f2, hA.same, hB.same, sameO (intc _ rfl), sameO (vs_flat m2), Tri.rnd blk74 hs⟩

theorem pw_n7e (w : World) {A B : O} (hA : FlatO A) (hB : FlatO B) (want : List Int) (ew : TypeId) (sw : Bool) (cap : Option Nat) (m1 m2 : Nat → Nat) (p k : Nat) (cq : Option Nat)
    (f1 : FnOK (En 9) w 113 [.sl 9 0 40001 1 (some 40001), .sc (.slice none 0 0), int 1] (hZ A B (oW want ew sw)) (.tup []) (hP A B (oW want ew sw) m1))
    (f2 : FnOK (En 9) w 113 [.sl 9 0 40001 1 (some 40001), .sl 7 p k 2 cq, int 2] (hP A B (oW want ew sw) m1) (.tup []) (hP A B (oW want ew sw) m2))
    (hs : LTri (En 9) w 9 true (rnd Tryz.f74 0) (pk A B want ew sw cap m2 0 none []) (.exit 0) (pkE A B want ew sw m2 [])) :
    ∃ h1 : Hp, FnOK (En 9) w 74 [.sc (.slice none 0 0), .sl 7 p k 2 cq, .sl 8 0 want.length 1 cap] (h3 A B (oW want ew sw)) (.sc (.slice none 0 0)) h1 :=
  FnOK.of_sfunv mixedP noGo Tryz.func74 [(15, .call (.tup []) (hP A B (oW want ew sw) m1)), (18, .call (.tup []) (hP A B (oW want ew sw) m2)), (400000, .code (kQ0 keeps) .norm (pkE A B want ew sw m2 []))]
    [FnOK (En 9) w 113 [.sl 9 0 40001 1 (some 40001), .sc (.slice none 0 0), int 1] (hZ A B (oW want ew sw)) (.tup []) (hP A B (oW want ew sw) m1),
      FnOK (En 9) w 113 [.sl 9 0 40001 1 (some 40001), .sl 7 p k 2 cq, int 2] (hP A B (oW want ew sw) m1) (.tup []) (hP A B (oW want ew sw) m2),
      SameO (kQ0 []).ρ A, SameO (kQ0 []).ρ B, SameO (kQ0 []).ρ (oW want ew sw), SameO (kQ0 []).ρ (.cells (vs m2) 3 false),
      Tri (En 9) w 9 true (blk Tryz.f74 0) (pk A B want ew sw cap m2 0 none []) .norm (pkE A B want ew sw m2 [])] (by kernel_rfl)
    ⟨f1, f2, hA.same, hB.same, sameO (intc _ rfl), sameO (vs_flat m2), Tri.rnd blk74 hs⟩

theorem pw_n7c (w : World) {A B : O} (hA : FlatO A) (hB : FlatO B) (want : List Int) (ew : TypeId) (sw : Bool) (cap : Option Nat) (m1 m2 : Nat → Nat) (p k : Nat) (cq : Option Nat) (s : Sp) (r : List Sp)
    (f1 : FnOK (En 9) w 113 [.sl 9 0 40001 1 (some 40001), .sc (.slice none 0 0), int 1] (hZ A B (oW want ew sw)) (.tup []) (hP A B (oW want ew sw) m1))
    (f2 : FnOK (En 9) w 113 [.sl 9 0 40001 1 (some 40001), .sl 7 p k 2 cq, int 2] (hP A B (oW want ew sw) m1) (.tup []) (hP A B (oW want ew sw) m2))
    (hs : LTri (En 9) w 9 true (rnd Tryz.f74 0) (pk A B want ew sw cap m2 0 none []) (.exit 0) (pkE A B want ew sw m2 (s :: r))) :
    ∃ h1 : Hp, h1.at_ 10 = some (.cells (encS (s :: r)) 23 true) ∧ FnOK (En 9) w 74 [.sc (.slice none 0 0), .sl 7 p k 2 cq, .sl 8 0 want.length 1 cap] (h3 A B (oW want ew sw)) (.sl 10 0 (r.length + 1) 2 none) h1 :=
  FnOK.of_sfunb mixedP noGo Tryz.func74 [(15, .call (.tup []) (hP A B (oW want ew sw) m1)), (18, .call (.tup []) (hP A B (oW want ew sw) m2)), (400000, .code (kQ0 keeps) .norm (pkE A B want ew sw m2 (s :: r)))]
    [FnOK (En 9) w 113 [.sl 9 0 40001 1 (some 40001), .sc (.slice none 0 0), int 1] (hZ A B (oW want ew sw)) (.tup []) (hP A B (oW want ew sw) m1),
      FnOK (En 9) w 113 [.sl 9 0 40001 1 (some 40001), .sl 7 p k 2 cq, int 2] (hP A B (oW want ew sw) m1) (.tup []) (hP A B (oW want ew sw) m2),
      SameO (kQ0 []).ρ A, SameO (kQ0 []).ρ B, SameO (kQ0 []).ρ (oW want ew sw), SameO (kQ0 []).ρ (.cells (vs m2) 3 false),
      Tri (En 9) w 9 true (blk Tryz.f74 0) (pk A B want ew sw cap m2 0 none []) .norm (pkE A B want ew sw m2 (s :: r))] (by kernel_rfl)
    ⟨f1, f2, hA.same, hB.same, sameO (intc _ rfl), sameO (vs_flat m2), Tri.rnd blk74 hs⟩

theorem pw_67e (w : World) {A B : O} (hA : FlatO A) (hB : FlatO B) (want : List Int) (ew : TypeId) (sw : Bool) (cap : Option Nat) (m1 m2 : Nat → Nat) (o n : Nat) (cp : Option Nat) (p k : Nat) (cq : Option Nat)
    (f1 : FnOK (En 9) w 113 [.sl 9 0 40001 1 (some 40001), .sl 6 o n 2 cp, int 1] (hZ A B (oW want ew sw)) (.tup []) (hP A B (oW want ew sw) m1))
    (f2 : FnOK (En 9) w 113 [.sl 9 0 40001 1 (some 40001), .sl 7 p k 2 cq, int 2] (hP A B (oW want ew sw) m1) (.tup []) (hP A B (oW want ew sw) m2))
    (hs : LTri (En 9) w 9 true (rnd Tryz.f74 0) (pk A B want ew sw cap m2 0 none []) (.exit 0) (pkE A B want ew sw m2 [])) :
    ∃ h1 : Hp, FnOK (En 9) w 74 [.sl 6 o n 2 cp, .sl 7 p k 2 cq, .sl 8 0 want.length 1 cap] (h3 A B (oW want ew sw)) (.sc (.slice none 0 0)) h1 :=
  FnOK.of_sfunv mixedP noGo Tryz.func74 [(15, .call (.tup []) (hP A B (oW want ew sw) m1)), (18, .call (.tup []) (hP A B (oW want ew sw) m2)), (400000, .code (kQ0 keeps) .norm (pkE A B want ew sw m2 []))]
    [FnOK (En 9) w 113 [.sl 9 0 40001 1 (some 40001), .sl 6 o n 2 cp, int 1] (hZ A B (oW want ew sw)) (.tup []) (hP A B (oW want ew sw) m1),
      FnOK (En 9) w 113 [.sl 9 0 40001 1 (some 40001), .sl 7 p k 2 cq, int 2] (hP A B (oW want ew sw) m1) (.tup []) (hP A B (oW want ew sw) m2),
      SameO (kQ0 []).ρ A, SameO (kQ0 []).ρ B, SameO (kQ0 []).ρ (oW want ew sw), SameO (kQ0 []).ρ (.cells (vs m2) 3 false),
      Tri (En 9) w 9 true (blk Tryz.f74 0) (pk A B want ew sw cap m2 0 none []) .norm (pkE A B want ew sw m2 [])] (by kernel_rfl)
    ⟨f1, f2, hA.same, hB.same, sameO (intc _ rfl), sameO (vs_flat m2), Tri.rnd blk74 hs⟩

theorem pw_67c (w : World) {A B : O} (hA : FlatO A) (hB : FlatO B) (want : List Int) (ew : TypeId) (sw : Bool) (cap : Option Nat) (m1 m2 : Nat → Nat) (o n : Nat) (cp : Option Nat) (p k : Nat) (cq : Option Nat) (s : Sp) (r : List Sp)
    (f1 : FnOK (En 9) w 113 [.sl 9 0 40001 1 (some 40001), .sl 6 o n 2 cp, int 1] (hZ A B (oW want ew sw)) (.tup []) (hP A B (oW want ew sw) m1))
    (f2 : FnOK (En 9) w 113 [.sl 9 0 40001 1 (some 40001), .sl 7 p k 2 cq, int 2] (hP A B (oW want ew sw) m1) (.tup []) (hP A B (oW want ew sw) m2))
    (hs : LTri (En 9) w 9 true (rnd Tryz.f74 0) (pk A B want ew sw cap m2 0 none []) (.exit 0) (pkE A B want ew sw m2 (s :: r))) :
    ∃ h1 : Hp, h1.at_ 10 = some (.cells (encS (s :: r)) 23 true) ∧ FnOK (En 9) w 74 [.sl 6 o n 2 cp, .sl 7 p k 2 cq, .sl 8 0 want.length 1 cap] (h3 A B (oW want ew sw)) (.sl 10 0 (r.length + 1) 2 none) h1 :=
  FnOK.of_sfunb mixedP noGo Tryz.func74 [(15, .call (.tup []) (hP A B (oW want ew sw) m1)), (18, .call (.tup []) (hP A B (oW want ew sw) m2)), (400000, .code (kQ0 keeps) .norm (pkE A B want ew sw m2 (s :: r)))]
    [FnOK (En 9) w 113 [.sl 9 0 40001 1 (some 40001), .sl 6 o n 2 cp, int 1] (hZ A B (oW want ew sw)) (.tup []) (hP A B (oW want ew sw) m1),
      FnOK (En 9) w 113 [.sl 9 0 40001 1 (some 40001), .sl 7 p k 2 cq, int 2] (hP A B (oW want ew sw) m1) (.tup []) (hP A B (oW want ew sw) m2),
      SameO (kQ0 []).ρ A, SameO (kQ0 []).ρ B, SameO (kQ0 []).ρ (oW want ew sw), SameO (kQ0 []).ρ (.cells (vs m2) 3 false),
      Tri (En 9) w 9 true (blk Tryz.f74 0) (pk A B want ew sw cap m2 0 none []) .norm (pkE A B want ew sw m2 (s :: r))] (by kernel_rfl)
    ⟨f1, f2, hA.same, hB.same, sameO (intc _ rfl), sameO (vs_flat m2), Tri.rnd blk74 hs⟩

theorem pw_66be (w : World) {A B : O} (hA : FlatO A) (hB : FlatO B) (want : List Int) (ew : TypeId) (sw : Bool) (cap : Option Nat) (m1 m2 : Nat → Nat) (o n : Nat) (cp : Option Nat) (p k : Nat) (cq : Option Nat)
    (f1 : FnOK (En 9) w 113 [.sl 9 0 40001 1 (some 40001), .sl 6 o n 2 cp, int 1] (hZ A B (oW want ew sw)) (.tup []) (hP A B (oW want ew sw) m1))
    (f2 : FnOK (En 9) w 113 [.sl 9 0 40001 1 (some 40001), .sl 6 p k 2 cq, int 2] (hP A B (oW want ew sw) m1) (.tup []) (hP A B (oW want ew sw) m2))
    (hs : LTri (En 9) w 9 true (rnd Tryz.f74 0) (pk A B want ew sw cap m2 0 none []) (.exit 0) (pkE A B want ew sw m2 [])) :
    ∃ h1 : Hp, FnOK (En 9) w 74 [.sl 6 o n 2 cp, .sl 6 p k 2 cq, .sl 8 0 want.length 1 cap] (h3 A B (oW want ew sw)) (.sc (.slice none 0 0)) h1 :=
  FnOK.of_sfunv mixedP noGo Tryz.func74 [(15, .call (.tup []) (hP A B (oW want ew sw) m1)), (18, .call (.tup []) (hP A B (oW want ew sw) m2)), (400000, .code (kQ0 keeps) .norm (pkE A B want ew sw m2 []))]
    [FnOK (En 9) w 113 [.sl 9 0 40001 1 (some 40001), .sl 6 o n 2 cp, int 1] (hZ A B (oW want ew sw)) (.tup []) (hP A B (oW want ew sw) m1),
      FnOK (En 9) w 113 [.sl 9 0 40001 1 (some 40001), .sl 6 p k 2 cq, int 2] (hP A B (oW want ew sw) m1) (.tup []) (hP A B (oW want ew sw) m2),
      SameO (kQ0 []).ρ A, SameO (kQ0 []).ρ B, SameO (kQ0 []).ρ (oW want ew sw), SameO (kQ0 []).ρ (.cells (vs m2) 3 false),
      Tri (En 9) w 9 true (blk Tryz.f74 0) (pk A B want ew sw cap m2 0 none []) .norm (pkE A B want ew sw m2 [])] (by kernel_rfl)
    ⟨f1, f2, hA.same, hB.same, sameO (intc _ rfl), sameO (vs_flat m2), Tri.rnd blk74 hs⟩

theorem pw_66bc (w : World) {A B : O} (hA : FlatO A) (hB : FlatO B) (want : List Int) (ew : TypeId) (sw : Bool) (cap : Option Nat) (m1 m2 : Nat → Nat) (o n : Nat) (cp : Option Nat) (p k : Nat) (cq : Option Nat) (s : Sp) (r : List Sp)
    (f1 : FnOK (En 9) w 113 [.sl 9 0 40001 1 (some 40001), .sl 6 o n 2 cp, int 1] (hZ A B (oW want ew sw)) (.tup []) (hP A B (oW want ew sw) m1))
    (f2 : FnOK (En 9) w 113 [.sl 9 0 40001 1 (some 40001), .sl 6 p k 2 cq, int 2] (hP A B (oW want ew sw) m1) (.tup []) (hP A B (oW want ew sw) m2))
    (hs : LTri (En 9) w 9 true (rnd Tryz.f74 0) (pk A B want ew sw cap m2 0 none []) (.exit 0) (pkE A B want ew sw m2 (s :: r))) :
    ∃ h1 : Hp, h1.at_ 10 = some (.cells (encS (s :: r)) 23 true) ∧ FnOK (En 9) w 74 [.sl 6 o n 2 cp, .sl 6 p k 2 cq, .sl 8 0 want.length 1 cap] (h3 A B (oW want ew sw)) (.sl 10 0 (r.length + 1) 2 none) h1 :=
  FnOK.of_sfunb mixedP noGo Tryz.func74 [(15, .call (.tup []) (hP A B (oW want ew sw) m1)), (18, .call (.tup []) (hP A B (oW want ew sw) m2)), (400000, .code (kQ0 keeps) .norm (pkE A B want ew sw m2 (s :: r)))]
    [FnOK (En 9) w 113 [.sl 9 0 40001 1 (some 40001), .sl 6 o n 2 cp, int 1] (hZ A B (oW want ew sw)) (.tup []) (hP A B (oW want ew sw) m1),
      FnOK (En 9) w 113 [.sl 9 0 40001 1 (some 40001), .sl 6 p k 2 cq, int 2] (hP A B (oW want ew sw) m1) (.tup []) (hP A B (oW want ew sw) m2),
      SameO (kQ0 []).ρ A, SameO (kQ0 []).ρ B, SameO (kQ0 []).ρ (oW want ew sw), SameO (kQ0 []).ρ (.cells (vs m2) 3 false),
      Tri (En 9) w 9 true (blk Tryz.f74 0) (pk A B want ew sw cap m2 0 none []) .norm (pkE A B want ew sw m2 (s :: r))] (by kernel_rfl)
    ⟨f1, f2, hA.same, hB.same, sameO (intc _ rfl), sameO (vs_flat m2), Tri.rnd blk74 hs⟩

/-! ### In whatever heap -/
def io (a b c : Nat) (j : Nat) : Nat := if j = 6 then a else if j = 7 then b else if j = 8 then c else j
def ro (a b c : Nat) (i : Nat) : Option Nat := bif Nat.beq i c then some 8 else bif Nat.beq i a then some 6 else bif Nat.beq i b then some 7 else none
theorem ro_io {a b c i j : Nat} (h : ro a b c i = some j) : j < 9 ∧ io a b c j = i := by
  unfold ro at h
  cases h1 : Nat.beq i c with
  | true => rw [h1] at h; cases h; exact ⟨by omega, (beq_iff.1 h1).symm⟩
  | false =>
    cases h2 : Nat.beq i a with
    | true => rw [h1, h2] at h; cases h; exact ⟨by omega, (beq_iff.1 h2).symm⟩
    | false =>
      cases h3 : Nat.beq i b with
      | true => rw [h1, h2, h3] at h; cases h; exact ⟨by omega, (beq_iff.1 h3).symm⟩
      | false => rw [h1, h2, h3] at h; cases h
theorem h3_mem {A B C : O} {j : Nat} {o : O} (h : (h3 A B C).at_ j = some o) : (j = 6 ∧ o = A) ∨ (j = 7 ∧ o = B) ∨ (j = 8 ∧ o = C) := by
  have := mkH_get [(6, A), (7, B), (8, C)] j o h
  simpa using this
theorem sub_three {r : Nat} {h : Hp} {a b c : Nat} {A B C : O} (ha : h.at_ a = some A) (hb : h.at_ b = some B) (hc : h.at_ c = some C) (fA : FlatO A) (fB : FlatO B) (fC : FlatO C) : Sub (En r) (h3 A B C) h (io a b c) := by
  refine ⟨by show 6 ≤ 9; omega, fun j hj => ?_, fun j o _ h _ => ?_, fun j hj => ?_⟩
  · have hj : j < 6 := hj
    unfold io
    rw [if_neg (by omega), if_neg (by omega), if_neg (by omega)]
  · rcases h3_mem h with ⟨rfl, rfl⟩ | ⟨rfl, rfl⟩ | ⟨rfl, rfl⟩
    · exact ⟨ha, fA.flat⟩
    · exact ⟨hb, fB.flat⟩
    · exact ⟨hc, fC.flat⟩
  · cases hx : (h3 A B C).at_ j with
    | none => rfl
    | some o =>
      have hj : 9 ≤ j := hj
      rcases h3_mem hx with ⟨h1, _⟩ | ⟨h1, _⟩ | ⟨h1, _⟩ <;> omega
theorem FlatO.alive {o : O} (h : FlatO o) : o.alive = true := by
  obtain ⟨c, e, sp, rfl, _⟩ := h
  rfl
theorem three_lt {h : Hp} {a b c : Nat} {A B C : O} (ha : h.at_ a = some A) (hb : h.at_ b = some B) (hc : h.at_ c = some C) (fA : FlatO A) (fB : FlatO B) (fC : FlatO C) (j : Nat) (hj : j < 9) (hg : 6 ≤ j) : ∃ o, h.at_ (io a b c j) = some o ∧ o.alive = true := by
  have : j = 6 ∨ j = 7 ∨ j = 8 := by omega
  rcases this with rfl | rfl | rfl
  · exact ⟨_, ha, fA.alive⟩
  · exact ⟨_, hb, fB.alive⟩
  · exact ⟨_, hc, fC.alive⟩
theorem pure3 {f : FuncId} {args args0 : List V} {v : V} {a b c : Nat} {A B C : O} (hn : noId v) (fA : FlatO A) (fB : FlatO B) (fC : FlatO C) (ok : ∀ w, ∃ h1, FnOK (En 9) w f args0 (h3 A B C) v h1)
    {r : Nat} (hr : 6 ≤ r) {w0 : World} {h : Hp} (ha : h.at_ a = some A) (hb : h.at_ b = some B) (hc : h.at_ c = some C) (hargs : rvals (ro a b c) args = args0) : FnOK (En r) w0 f args h v h :=
  FnOK.sub (E := En r) (h0 := h3 A B C) (args0 := args0) (io a b c) (ro a b c) (sub_three ha hb hc fA fB fC) (fun i j h => ro_io h) hargs (fun j hj hg => three_lt ha hb hc fA fB fC j hj hg) hr hn ok
theorem new3 {f : FuncId} {args args0 : List V} {n es i1 : Nat} {cap : Option Nat} {c1 : List V} {e1 : TypeId} {sp1 : Bool} {a b c : Nat} {A B C : O} (hi : 9 ≤ i1) (hnz : n ≠ 0 ∨ cap.isSome = true) (fA : FlatO A) (fB : FlatO B) (fC : FlatO C) (hfl1 : Flat (.cells c1 e1 sp1))
    (ok : ∀ w, ∃ h1 : Hp, h1.at_ i1 = some (.cells c1 e1 sp1) ∧ FnOK (En 9) w f args0 (h3 A B C) (.sl i1 0 n es cap) h1)
    {r : Nat} (hr : 6 ≤ r) {w0 : World} {h : Hp} (ha : h.at_ a = some A) (hb : h.at_ b = some B) (hc : h.at_ c = some C) (hargs : rvals (ro a b c) args = args0) : FnOK (En r) w0 f args h (.sl h.n 0 n es cap) (h.new (.cells c1 e1 sp1)) :=
  FnOK.sub1 (E := En r) (h0 := h3 A B C) (args0 := args0) (v := .sl i1 0 n es cap) (i1 := i1) (io a b c) (ro a b c) (sub_three ha hb hc fA fB fC) (fun i j h => ro_io h) hargs (fun j hj hg => three_lt ha hb hc fA fB fC j hj hg) hr hi hfl1 _ (by simp [rtmp, rval, rcell, rleaf]) (sl_ne hnz) ok

/-! ### nacelleref01.picked -/
def marked (la lb : List Sp) : Nat → Nat := markF (cov lb) 2 (markF (cov la) 1 fun _ => 0)
def pickF (la lb : List Sp) (want : List Int) : List Sp := scanF (wantK (marked la lb) want) 40001 0 none []
theorem zero_le3 : ∀ q : Nat, (fun _ : Nat => 0) q ≤ 3 := fun _ => by simp
theorem mark1_le (la : List Sp) : ∀ q, markF (cov la) 1 (fun _ => 0) q ≤ 3 := markF_le (.inl rfl) zero_le3
theorem pk_run (w : World) {A B : O} (hA : FlatO A) (hB : FlatO B) (want : List Int) (ew : TypeId) (sw : Bool) (cap : Option Nat) (la lb : List Sp) (hw : want.length ≤ 1000000) : LTri (En 9) w 9 true (rnd Tryz.f74 0) (pk A B want ew sw cap (marked la lb) 0 none []) (.exit 0) (pkE A B want ew sw (marked la lb) (pickF la lb want)) := by
  unfold pickF
  exact pk_loop w hA hB want ew sw cap (marked la lb) hw 40001 0 none [] rfl (Nat.le_refl 0)
/-- What the call answers, where it is done in the heap of its own. -/
def PickOK (want : List Int) (ew : TypeId) (sw : Bool) (cap : Option Nat) (A B : O) (va vb : V) (res : List Sp) : Prop :=
  ∀ w, match res with
    | [] => ∃ h1 : Hp, FnOK (En 9) w 74 [va, vb, .sl 8 0 want.length 1 cap] (h3 A B (oW want ew sw)) (.sc (.slice none 0 0)) h1
    | s :: r => ∃ h1 : Hp, h1.at_ 10 = some (.cells (encS (s :: r)) 23 true) ∧ FnOK (En 9) w 74 [va, vb, .sl 8 0 want.length 1 cap] (h3 A B (oW want ew sw)) (.sl 10 0 (r.length + 1) 2 none) h1

theorem pick_nn {want : List Int} (hw : want.length ≤ 1000000) {ew : TypeId} {sw : Bool} {cap : Option Nat} {A : O} (hA : FlatO A) {B : O} (hB : FlatO B) {res : List Sp} (hr : pickF [] [] want = res) : PickOK want ew sw cap A B (.sc (.slice none 0 0)) (.sc (.slice none 0 0)) res := by
  intro w
  have fA : FlatO A := hA
  have fB : FlatO B := hB
  have f1 : FnOK (En 9) w 113 [.sl 9 0 40001 1 (some 40001), .sc (.slice none 0 0), int 1] (hZ A B (oW want ew sw)) (.tup []) (hP A B (oW want ew sw) (markF (cov []) 1 fun _ => 0)) := by
    rw [hZ_eq]
    exact marks_nil w _ 1
  have f2 : FnOK (En 9) w 113 [.sl 9 0 40001 1 (some 40001), .sc (.slice none 0 0), int 2] (hP A B (oW want ew sw) (markF (cov []) 1 fun _ => 0)) (.tup []) (hP A B (oW want ew sw) (marked [] [])) := marks_nil w _ 2
  have hs := pk_run w fA fB want ew sw cap [] [] hw
  rw [hr] at hs
  cases res with
  | nil => exact pw_nne w fA fB want ew sw cap _ _ f1 f2 hs
  | cons s r => exact pw_nnc w fA fB want ew sw cap _ _ s r f1 f2 hs

theorem pick_6n {want : List Int} (hw : want.length ≤ 1000000) {ew : TypeId} {sw : Bool} {cap : Option Nat} {B : O} (hB : FlatO B) {ca : List V} {ea : TypeId} {sa : Bool} {o : Nat} {cp : Option Nat} {la : List Sp} (Ra : Row2 ca o la) (hla : la.length ≤ 1000000) (hva : ∀ s ∈ la, spanE s = 0) {res : List Sp} (hr : pickF la [] want = res) : PickOK want ew sw cap (.cells ca ea sa) B (.sl 6 o la.length 2 cp) (.sc (.slice none 0 0)) res := by
  intro w
  have fA : FlatO (.cells ca ea sa) := ⟨_, _, _, rfl, Ra.flat⟩
  have fB : FlatO B := hB
  have f1 : FnOK (En 9) w 113 [.sl 9 0 40001 1 (some 40001), .sl 6 o la.length 2 cp, int 1] (hZ (.cells ca ea sa) B (oW want ew sw)) (.tup []) (hP (.cells ca ea sa) B (oW want ew sw) (markF (cov la) 1 fun _ => 0)) := by
    rw [hZ_eq]
    exact marks6 w Ra hla hva fB.same (sameO (intc want rfl)) (.inl rfl) zero_le3
  have f2 : FnOK (En 9) w 113 [.sl 9 0 40001 1 (some 40001), .sc (.slice none 0 0), int 2] (hP (.cells ca ea sa) B (oW want ew sw) (markF (cov la) 1 fun _ => 0)) (.tup []) (hP (.cells ca ea sa) B (oW want ew sw) (marked la [])) := marks_nil w _ 2
  have hs := pk_run w fA fB want ew sw cap la [] hw
  rw [hr] at hs
  cases res with
  | nil => exact pw_6ne w fA fB want ew sw cap _ _ o la.length cp f1 f2 hs
  | cons s r => exact pw_6nc w fA fB want ew sw cap _ _ o la.length cp s r f1 f2 hs

theorem pick_n7 {want : List Int} (hw : want.length ≤ 1000000) {ew : TypeId} {sw : Bool} {cap : Option Nat} {A : O} (hA : FlatO A) {cb : List V} {eb : TypeId} {sb : Bool} {p : Nat} {cq : Option Nat} {lb : List Sp} (Rb : Row2 cb p lb) (hlb : lb.length ≤ 1000000) (hvb : ∀ s ∈ lb, spanE s = 0) {res : List Sp} (hr : pickF [] lb want = res) : PickOK want ew sw cap A (.cells cb eb sb) (.sc (.slice none 0 0)) (.sl 7 p lb.length 2 cq) res := by
  intro w
  have fA : FlatO A := hA
  have fB : FlatO (.cells cb eb sb) := ⟨_, _, _, rfl, Rb.flat⟩
  have f1 : FnOK (En 9) w 113 [.sl 9 0 40001 1 (some 40001), .sc (.slice none 0 0), int 1] (hZ A (.cells cb eb sb) (oW want ew sw)) (.tup []) (hP A (.cells cb eb sb) (oW want ew sw) (markF (cov []) 1 fun _ => 0)) := by
    rw [hZ_eq]
    exact marks_nil w _ 1
  have f2 : FnOK (En 9) w 113 [.sl 9 0 40001 1 (some 40001), .sl 7 p lb.length 2 cq, int 2] (hP A (.cells cb eb sb) (oW want ew sw) (markF (cov []) 1 fun _ => 0)) (.tup []) (hP A (.cells cb eb sb) (oW want ew sw) (marked [] lb)) := marks7 w Rb hlb hvb fA.same (sameO (intc want rfl)) (.inr rfl) (mark1_le [])
  have hs := pk_run w fA fB want ew sw cap [] lb hw
  rw [hr] at hs
  cases res with
  | nil => exact pw_n7e w fA fB want ew sw cap _ _ p lb.length cq f1 f2 hs
  | cons s r => exact pw_n7c w fA fB want ew sw cap _ _ p lb.length cq s r f1 f2 hs

theorem pick_67 {want : List Int} (hw : want.length ≤ 1000000) {ew : TypeId} {sw : Bool} {cap : Option Nat} {ca : List V} {ea : TypeId} {sa : Bool} {o : Nat} {cp : Option Nat} {la : List Sp} (Ra : Row2 ca o la) (hla : la.length ≤ 1000000) (hva : ∀ s ∈ la, spanE s = 0) {cb : List V} {eb : TypeId} {sb : Bool} {p : Nat} {cq : Option Nat} {lb : List Sp} (Rb : Row2 cb p lb) (hlb : lb.length ≤ 1000000) (hvb : ∀ s ∈ lb, spanE s = 0) {res : List Sp} (hr : pickF la lb want = res) : PickOK want ew sw cap (.cells ca ea sa) (.cells cb eb sb) (.sl 6 o la.length 2 cp) (.sl 7 p lb.length 2 cq) res := by
  intro w
  have fA : FlatO (.cells ca ea sa) := ⟨_, _, _, rfl, Ra.flat⟩
  have fB : FlatO (.cells cb eb sb) := ⟨_, _, _, rfl, Rb.flat⟩
  have f1 : FnOK (En 9) w 113 [.sl 9 0 40001 1 (some 40001), .sl 6 o la.length 2 cp, int 1] (hZ (.cells ca ea sa) (.cells cb eb sb) (oW want ew sw)) (.tup []) (hP (.cells ca ea sa) (.cells cb eb sb) (oW want ew sw) (markF (cov la) 1 fun _ => 0)) := by
    rw [hZ_eq]
    exact marks6 w Ra hla hva fB.same (sameO (intc want rfl)) (.inl rfl) zero_le3
  have f2 : FnOK (En 9) w 113 [.sl 9 0 40001 1 (some 40001), .sl 7 p lb.length 2 cq, int 2] (hP (.cells ca ea sa) (.cells cb eb sb) (oW want ew sw) (markF (cov la) 1 fun _ => 0)) (.tup []) (hP (.cells ca ea sa) (.cells cb eb sb) (oW want ew sw) (marked la lb)) := marks7 w Rb hlb hvb fA.same (sameO (intc want rfl)) (.inr rfl) (mark1_le la)
  have hs := pk_run w fA fB want ew sw cap la lb hw
  rw [hr] at hs
  cases res with
  | nil => exact pw_67e w fA fB want ew sw cap _ _ o la.length cp p lb.length cq f1 f2 hs
  | cons s r => exact pw_67c w fA fB want ew sw cap _ _ o la.length cp p lb.length cq s r f1 f2 hs

theorem pick_66b {want : List Int} (hw : want.length ≤ 1000000) {ew : TypeId} {sw : Bool} {cap : Option Nat} {B : O} (hB : FlatO B) {ca : List V} {ea : TypeId} {sa : Bool} {o : Nat} {cp : Option Nat} {la : List Sp} (Ra : Row2 ca o la) (hla : la.length ≤ 1000000) (hva : ∀ s ∈ la, spanE s = 0) {cb : List V} {eb : TypeId} {sb : Bool} {p : Nat} {cq : Option Nat} {lb : List Sp} (Rb : Row2 ca p lb) (hlb : lb.length ≤ 1000000) (hvb : ∀ s ∈ lb, spanE s = 0) {res : List Sp} (hr : pickF la lb want = res) : PickOK want ew sw cap (.cells ca ea sa) B (.sl 6 o la.length 2 cp) (.sl 6 p lb.length 2 cq) res := by
  intro w
  have fA : FlatO (.cells ca ea sa) := ⟨_, _, _, rfl, Ra.flat⟩
  have fB : FlatO B := hB
  have f1 : FnOK (En 9) w 113 [.sl 9 0 40001 1 (some 40001), .sl 6 o la.length 2 cp, int 1] (hZ (.cells ca ea sa) B (oW want ew sw)) (.tup []) (hP (.cells ca ea sa) B (oW want ew sw) (markF (cov la) 1 fun _ => 0)) := by
    rw [hZ_eq]
    exact marks6 w Ra hla hva fB.same (sameO (intc want rfl)) (.inl rfl) zero_le3
  have f2 : FnOK (En 9) w 113 [.sl 9 0 40001 1 (some 40001), .sl 6 p lb.length 2 cq, int 2] (hP (.cells ca ea sa) B (oW want ew sw) (markF (cov la) 1 fun _ => 0)) (.tup []) (hP (.cells ca ea sa) B (oW want ew sw) (marked la lb)) := marks6 w Rb hlb hvb fB.same (sameO (intc want rfl)) (.inr rfl) (mark1_le la)
  have hs := pk_run w fA fB want ew sw cap la lb hw
  rw [hr] at hs
  cases res with
  | nil => exact pw_66be w fA fB want ew sw cap _ _ o la.length cp p lb.length cq f1 f2 hs
  | cons s r => exact pw_66bc w fA fB want ew sw cap _ _ o la.length cp p lb.length cq s r f1 f2 hs
/-- A call that answers a list of spans, in a slice of a new block; no slice for no span. -/
def AnsOK (E : SM.Env) (w0 : World) (g : FuncId) (args : List V) (objs : List (Nat × O)) (res : List Sp) : Prop :=
  match res with
  | [] => CvOK E w0 g args objs (.sc (.slice none 0 0))
  | s :: r => CnOK E w0 g args objs (r.length + 1) 2 none (encS (s :: r)) 23 true
theorem oW_flat (want : List Int) (ew : TypeId) (sw : Bool) : FlatO (oW want ew sw) := ⟨_, _, _, rfl, intc want rfl⟩
theorem ro_c (a b c : Nat) : ro a b c c = some 8 := by unfold ro; rw [beqs]; rfl
theorem beq_ne {a b : Nat} (h : a ≠ b) : Nat.beq a b = false := by
  cases hq : Nat.beq a b with
  | false => rfl
  | true => exact absurd (beq_iff.1 hq) h
theorem ro_a {a b c : Nat} (h : a ≠ c) : ro a b c a = some 6 := by unfold ro; rw [beq_ne h, beqs]; rfl
theorem ro_b {a b c : Nat} (h : b ≠ c) (h2 : b ≠ a) : ro a b c b = some 7 := by unfold ro; rw [beq_ne h, beq_ne h2, beqs]; rfl

theorem ans_of {want : List Int} {ew : TypeId} {sw : Bool} {cap : Option Nat} {A B : O} {va vb va' vb' : V} {res : List Sp} (fA : FlatO A) (fB : FlatO B) (ok : PickOK want ew sw cap A B va vb res) {r : Nat} (hr : 6 ≤ r) {w0 : World} {h : Hp} {a b c : Nat} (ha : h.at_ a = some A) (hb : h.at_ b = some B) (hc : h.at_ c = some (oW want ew sw))
    (hargs : rvals (ro a b c) [va', vb', .sl c 0 want.length 1 cap] = [va, vb, .sl 8 0 want.length 1 cap]) :
    match res with
    | [] => FnOK (En r) w0 74 [va', vb', .sl c 0 want.length 1 cap] h (.sc (.slice none 0 0)) h
    | s :: l => FnOK (En r) w0 74 [va', vb', .sl c 0 want.length 1 cap] h (.sl h.n 0 (l.length + 1) 2 none) (h.new (.cells (encS (s :: l)) 23 true)) := by
  cases res with
  | nil => exact pure3 noId_sc fA fB (oW_flat want ew sw) ok hr ha hb hc hargs
  | cons s l => exact new3 (i1 := 10) (by omega) (.inl (by omega)) fA fB (oW_flat want ew sw) (flatO (encS_flat _)) ok hr ha hb hc hargs

theorem picked_nn {r : Nat} (hr : 6 ≤ r) {w0 : World} {want : List Int} (hw : want.length ≤ 1000000) {ew : TypeId} {sw : Bool} {cap : Option Nat} {c : Nat} {res : List Sp} (hres : pickF [] [] want = res) :
    AnsOK (En r) w0 74 [.sc (.slice none 0 0), .sc (.slice none 0 0), .sl c 0 want.length 1 cap] [(c, oW want ew sw)] res := by
  have k : ∀ h, HasAll h [(c, oW want ew sw)] → _ := fun h hh => ans_of (w0 := w0) (oW_flat want ew sw) (oW_flat want ew sw) (pick_nn hw (cap := cap) (oW_flat want ew sw) (oW_flat want ew sw) hres) hr (a := c) (b := c) hh.1 hh.1 hh.1 (va' := .sc (.slice none 0 0)) (vb' := .sc (.slice none 0 0)) (by simp [rvals, rval, rcell, rleaf, ro_c])
  cases res with
  | nil => exact k
  | cons s l => exact k
theorem picked_an {r : Nat} (hr : 6 ≤ r) {w0 : World} {want : List Int} (hw : want.length ≤ 1000000) {ew : TypeId} {sw : Bool} {cap : Option Nat} {a c : Nat} (hac : a ≠ c) {ca : List V} {ea : TypeId} {sa : Bool} {o : Nat} {cp : Option Nat} {la : List Sp} (Ra : Row2 ca o la) (hla : la.length ≤ 1000000) (hva : ∀ s ∈ la, spanE s = 0) {res : List Sp} (hres : pickF la [] want = res) :
    AnsOK (En r) w0 74 [.sl a o la.length 2 cp, .sc (.slice none 0 0), .sl c 0 want.length 1 cap] [(a, .cells ca ea sa), (c, oW want ew sw)] res := by
  have fA : FlatO (.cells ca ea sa) := ⟨_, _, _, rfl, Ra.flat⟩
  have k : ∀ h, HasAll h [(a, .cells ca ea sa), (c, oW want ew sw)] → _ := fun h hh => ans_of (w0 := w0) fA (oW_flat want ew sw) (pick_6n hw (cap := cap) (cp := cp) (sa := sa) (ea := ea) (oW_flat want ew sw) Ra hla hva hres) hr (a := a) (b := c) hh.1 hh.2.1 hh.2.1 (va' := .sl a o la.length 2 cp) (vb' := .sc (.slice none 0 0)) (by simp [rvals, rval, rcell, rleaf, ro_c, ro_a hac])
  cases res with
  | nil => exact k
  | cons s l => exact k

/-! ### nacelleref01.Canon -/
theorem RefCanon_ans {r : Nat} (hr : 6 ≤ r) {w0 : World} {v : V} {objs : List (Nat × O)} {l : List Sp} (hv : ∀ h, HasAll h objs → Arg2 h v objs l) (hl : l.length ≤ 1000000) (hval : ∀ s ∈ l, spanE s = 0) {res : List Sp} (hres : pickF l [] [1] = res) : AnsOK (En r) w0 18 [v] objs res := by
  have one : ∀ (h : Hp), HasAll h objs → match (motive := List Sp → Prop) res with
      | [] => FnOK (En r) w0 18 [v] h (.sc (.slice none 0 0)) h
      | s :: l => FnOK (En r) w0 18 [v] h (.sl h.n 0 (l.length + 1) 2 none) (h.new (.cells (encS (s :: l)) 23 true)) := by
    intro h hh
    cases hv h hh with
    | nil =>
      cases res with
      | nil =>
        refine pure0 rfl noId_sc (fun w => ?_) hr
        exact FnOK.of_sfunv mixedP noGo Tryz.func18 [(5, .cv (.sc (.slice none 0 0)))] [CvOK (En 6) w 74 [.sc (.slice none 0 0), .sc (.slice none 0 0), .sl 6 0 1 1 (some 1)] [(6, .cells [int 1] 3 false)] (.sc (.slice none 0 0))] (by kernel_rfl) (picked_nn (want := [1]) (Nat.le_refl _) (by simp) hres)
      | cons s t =>
        refine new0 (i1 := 7) (by omega) (.inl (by omega)) (flatO (encS_flat _)) rfl (fun w => ?_) hr
        exact FnOK.of_sfunb mixedP noGo Tryz.func18 [(5, .cn (t.length + 1) 2 none (encS (s :: t)) 23 true)] [CnOK (En 6) w 74 [.sc (.slice none 0 0), .sc (.slice none 0 0), .sl 6 0 1 1 (some 1)] [(6, .cells [int 1] 3 false)] (t.length + 1) 2 none (encS (s :: t)) 23 true] (by kernel_rfl) (picked_nn (want := [1]) (Nat.le_refl _) (by simp) hres)
    | @sl b o cap c e sp _ R hb =>
      cases res with
      | nil =>
        refine pure1 (args0 := [.sl 6 o l.length 2 cap]) noId_sc (flatO R.flat) (fun w => ?_) hr hb (by simp [rvals, rval, rcell, rleaf])
        exact FnOK.of_sfunv mixedP noGo Tryz.func18 [(5, .cv (.sc (.slice none 0 0)))] [CvOK (En 7) w 74 [.sl 6 o l.length 2 cap, .sc (.slice none 0 0), .sl 7 0 1 1 (some 1)] [(6, .cells c e sp), (7, .cells [int 1] 3 false)] (.sc (.slice none 0 0))] (by kernel_rfl) (picked_an (want := [1]) (by omega) (by simp) (by omega) R hl hval hres)
      | cons s t =>
        refine new1 (i1 := 8) (args0 := [.sl 6 o l.length 2 cap]) (by omega) (.inl (by omega)) (flatO R.flat) (flatO (encS_flat _)) (fun w => ?_) hr hb (by simp [rvals, rval, rcell, rleaf])
        exact FnOK.of_sfunb mixedP noGo Tryz.func18 [(5, .cn (t.length + 1) 2 none (encS (s :: t)) 23 true)] [CnOK (En 7) w 74 [.sl 6 o l.length 2 cap, .sc (.slice none 0 0), .sl 7 0 1 1 (some 1)] [(6, .cells c e sp), (7, .cells [int 1] 3 false)] (t.length + 1) 2 none (encS (s :: t)) 23 true] (by kernel_rfl) (picked_an (want := [1]) (by omega) (by simp) (by omega) R hl hval hres)
  cases res with
  | nil => exact one
  | cons s t => exact one
end Go.Proofs.YtmlfcaaecofnjaaGreatDoor
