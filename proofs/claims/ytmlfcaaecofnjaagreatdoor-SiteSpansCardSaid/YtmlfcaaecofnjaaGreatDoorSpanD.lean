/- Spans: slices.SortFunc, site.canon, site.Canon, the law. -/
import Derived.Test.YtmlfcaaecofnjaaGreatDoorSpanC
import Derived.Test.YtmlfcaaecofnjaaGreatDoorSort1
set_option linter.unusedVariables false
namespace Go.Proofs.YtmlfcaaecofnjaaGreatDoor
open Go Go.Proofs Go.RowKit SM
set_option maxRecDepth 100000

namespace SM
/-- A world that has the same blocks, and more. -/
theorem WR.ext {G : Nat} {w0 : World} {σ : SM.Ren} {h : Hp} {w w' : World} (r : WR G w0 σ h w) (hos : w'.os = w.os) (ht : w'.tape = w.tape) (ho : w'.output = w.output) (hs : w.heap.size ≤ w'.heap.size) (hk : ∀ k, k < w.heap.size → w'.heap[k]? = w.heap[k]?) : WR G w0 σ h w' := by
  have lt : ∀ {i b : Nat} {o : O}, σ i = some b → h.at_ i = some o → o.alive = true → b < w.heap.size := fun e hp hv => r.blk e hp hv
  refine ⟨r.fresh, fun i b o e ha hv => ?_, r.own, r.old, fun i b c e sp c' e' f ei hg hi hw => ?_, r.injG, ⟨hos.trans r.below.os, ht.trans r.below.tape, ho.trans r.below.output, Nat.le_trans r.below.size hs, fun k hk2 => (hk k (Nat.lt_of_lt_of_le hk2 r.below.size)).trans (r.below.block k hk2)⟩, r.low, fun i b c e sp c' e' f ei hi hw => ?_⟩
  · obtain ⟨o', h1, h2⟩ := r.obj i b o e ha hv
    exact ⟨o', (hk b (lt e ha hv)).trans h1, h2⟩
  · rw [hk b (lt ei hi rfl)] at hw
    exact r.calm i b c e sp c' e' f ei hg hi hw
  · rw [hk b (lt ei hi rfl)] at hw
    exact r.size i b c e sp c' e' f ei hi hw
end SM

open Go.Sort in
theorem encS_flatK (d : Array Sp) : ∀ j, j < d.size * 2 → (encS d.toList)[j]? = some (.sc (flatK Tryz.encSp 2 d)[j]!) := by
  intro j hj
  have hk : j / 2 < d.toList.length := by simp; omega
  rw [get_flatK _ _ _ _ hj]
  have e1 : d[j / 2]! = d.toList[j / 2] := by
    rw [getElem!_pos d (j / 2) (by simpa using hk)]
    simp
  rw [e1]
  have r := row2_enc d.toList
  have h0 := r.at0 hk
  have h1 := r.at1 hk
  rcases Nat.mod_two_eq_zero_or_one j with hm | hm
  · rw [hm]
    rw [show 0 + j / 2 * 2 + 0 = j by omega] at h0
    exact h0
  · rw [hm]
    rw [show 0 + j / 2 * 2 + 1 = j by omega] at h1
    exact h1

/-- The list sorted. -/
def sortd (l : List Sp) : List Sp := (Tryz.pdqSp l.toArray).toList
open Go.Sort in
theorem sortd_perm (l : List Sp) : (sortd l).Perm l := by
  obtain ⟨h1, _, h3⟩ := (Tryz.pdqSp_sorts l.toArray).1
  have e1 : (Tryz.pdqSp l.toArray).extract 0 l.toArray.size = Tryz.pdqSp l.toArray := by
    rw [← h1]; simp
  have e2 : l.toArray.extract 0 l.toArray.size = l.toArray := by simp
  rw [e1, e2] at h3
  exact h3
theorem sortd_len (l : List Sp) : (sortd l).length = l.length := (sortd_perm l).length_eq
open Go.Sort in
theorem sortd_sorted (l : List Sp) : (sortd l).Pairwise fun a b => a.1 ≤ b.1 := by
  have h := (Tryz.pdqSp_sorts l.toArray).2
  have hsz : (Tryz.pdqSp l.toArray).size = l.length := by
    have := (Tryz.pdqSp_sorts l.toArray).1.1
    simpa using this
  rw [List.pairwise_iff_getElem]
  intro i j hi hj hij
  have hj' : j < l.length := by rw [← sortd_len l]; exact hj
  have := h i j (Nat.zero_le _) hij (by simpa using hj')
  rw [Tryz.ltSp] at this
  have g : ∀ k (hk : k < (sortd l).length), (Tryz.pdqSp l.toArray)[k]! = (sortd l)[k] := fun k hk => by
    rw [getElem!_pos _ k (by rw [hsz, ← sortd_len l]; exact hk)]
    simp [sortd]
  rw [g i hi, g j hj] at this
  simpa using this

open Go.Sort in
theorem sort_ok (w0 : World) {c : List V} {e : TypeId} {sp : Bool} {cap : Option Nat} {l : List Sp} (hl : l.length ≤ 1000000) (hne : l ≠ []) :
    FnOK (En 7) w0 125 [.sl 9 0 l.length 2 none, .fn 111 [] []] (hC c e sp l.length cap (encS l)) (.tup []) (hC c e sp l.length cap (encS (sortd l))) := by
  refine FnOK.of_calls noGo Tryz.func125 (by kernel_rfl) fun σ w args' r g ha => ?_
  cases ha with
  | cons h1 ha =>
  cases ha with
  | cons h2 ha =>
  cases ha with
  | nil =>
  obtain ⟨fi', cs', q1, q2, rfl⟩ := (RT.val h2).fnv
  cases q1
  cases q2
  rcases (RT.val h1).sl_inv with ⟨b, c', hb, _, hle, hz, rfl⟩ | ⟨h0, _⟩
  rotate_left
  · exact absurd (List.length_eq_zero_iff.1 h0) hne
  have hat : (hC c e sp l.length cap (encS l)).at_ 9 = some (.cells (encS l) 23 true) := by kernel_rfl
  obtain ⟨o', hw, ho⟩ := r.obj 9 b _ hb hat rfl
  cases ho with
  | @cells _ C _ _ f hlen hs hc =>
  have hblk : b < w.heap.size := (Array.getElem?_eq_some_iff.1 hw).1
  have hcalm : SM.Calm f C.size := r.calm 9 b _ _ _ _ _ _ hb (by show 7 ≤ 9; omega) hat hw
  have hlen' : l.length * 2 ≤ C.size := by rw [encS_len] at hlen; exact hlen
  have hold : HoldsK Tryz.encSp 2 w b 0 l.toArray := by
    intro j hj
    rw [size_flatK] at hj
    have hj2 : j < l.length * 2 := by simpa using hj
    obtain ⟨v', k1, k2⟩ := hc j _ (encS_flatK l.toArray j hj)
    cases k2 with
    | leaf k2 => cases k2 with
      | sc _ =>
        refine ⟨?_, ?_⟩
        · rw [show 0 + j = j by omega]
          simp only [World.cell?, hw, k1]
          rfl
        · simp only [World.frozen?, hw]
          rcases hcalm with h | h
          · subst h; simp
          · subst h; simp; omega
  have key := Tryz.sort_calls b 0 c' l.toArray w hold hblk (by simp; omega)
  simp only [List.size_toArray] at key
  refine Calls.mono key ?_
  rintro en w' ⟨rfl, n, os, rfl⟩
  have hDs : (Tryz.pdqSp l.toArray).size = l.length := by
    have := (Tryz.pdqSp_sorts l.toArray).1.1
    simpa using this
  refine ⟨_, σ, rfl, Ren.le_refl σ, ?_, .tup .nil⟩
  have put := r.put (o := .cells (encS (sortd l)) 23 true) (o' := .cells (putCells id 0 (flatK Tryz.encSp 2 (Tryz.pdqSp l.toArray)) C) 23 f) hb hat rfl (by show 7 ≤ 9; omega) (.cells (by rw [encS_len, sortd_len]; simpa [putCells] using hlen') (fun h => by cases h) (fun i v hv => ?_)) (fun C2 e2 f2 h => ?_)
  · have hh : (hC c e sp l.length cap (encS l)).put 9 (.cells (encS (sortd l)) 23 true) = hC c e sp l.length cap (encS (sortd l)) := by kernel_rfl
    rw [hh] at put
    refine SM.WR.ext put rfl rfl rfl ?_ fun k hk => ?_
    · show _ ≤ (grow _ os).heap.size
      rw [size_grow, World.putObj_size]
      simp [putRowK, putRow, mapBlock, Go.Sort.ahead]
    · rw [World.putObj_size] at hk
      have hk' : k < (putRowK Tryz.encSp 2 (Go.Sort.ahead w n) b 0 (Tryz.pdqSp l.toArray)).heap.size := by simpa [putRowK, putRow, mapBlock, Go.Sort.ahead] using hk
      show (grow _ os).heap[k]? = _
      rw [heap_grow_old _ os hk']
      show ((Go.Sort.ahead w n).heap.modify b _)[k]? = _
      rw [Array.getElem?_modify]
      by_cases hkb : k = b
      · subst hkb
        rw [World.putObj_heap_same hblk, if_pos rfl]
        show (w.heap[k]?).map _ = _
        rw [hw]
        rfl
      · rw [World.putObj_heap_other hkb, if_neg (fun h => hkb h.symm)]
        rfl
  · have hi : i < l.length * 2 := by
      have := (List.getElem?_eq_some_iff.1 hv).1
      rw [encS_len, sortd_len] at this
      exact this
    have := encS_flatK (Tryz.pdqSp l.toArray) i (by rw [hDs]; exact hi)
    rw [show (Tryz.pdqSp l.toArray).toList = sortd l from rfl, hv] at this
    cases this
    refine ⟨(flatK Tryz.encSp 2 (Tryz.pdqSp l.toArray))[i]!, ?_, .leaf (.sc ?_)⟩
    · simp only [putCells, Array.getElem?_mapIdx]
      have hi' : i < C.size := by omega
      rw [Array.getElem?_eq_getElem hi']
      simp only [Option.map_some]
      rw [if_pos ⟨Nat.zero_le _, by rw [size_flatK, hDs]; omega⟩]
      rfl
    · rw [get_flatK _ _ _ _ (by rw [hDs]; exact hi)]
      have : i % 2 = 0 ∨ i % 2 = 1 := by omega
      rcases this with h | h <;> rw [h] <;> rfl
  · cases h
    refine ⟨?_, ?_⟩
    · have := r.size 9 b _ _ _ _ _ _ hb hat hw
      simpa [putCells] using this
    · simpa [putCells] using hcalm
noncomputable abbrev hK0 (c : List V) (e : TypeId) (sp : Bool) (d : List V) : Hp := ⟨8, mkH [(6, .cells c e sp), (7, .cells d 23 true)]⟩
noncomputable abbrev hK1 (c : List V) (e : TypeId) (sp : Bool) (d : List V) (u : List V) : Hp := ⟨9, mkH [(6, .cells c e sp), (7, .cells d 23 true), (8, .cells u 23 true)]⟩
abbrev kK0 (keep : List Nat) : Wk := ⟨7, [(6, 6, true), (7, 7, true), (10, 8, true)], keep, [], 9⟩
abbrev kK1 (keep : List Nat) : Wk := ⟨7, [(6, 6, true), (7, 7, true), (8, 8, true)], keep, [], 9⟩
abbrev kKa (keep : List Nat) : Wk := ⟨7, [(6, 6, true), (7, 7, true), (11, 8, true)], keep, [], 9⟩
abbrev kKs (keep : List Nat) : Wk := ⟨7, [(6, 6, true), (9, 7, true)], keep, [], 8⟩
abbrev keepc : List Nat := [2, 4, 11, 12, 13]
noncomputable abbrev cn0 (c : List V) (e : TypeId) (sp : Bool) (m : List Sp) : St := ⟨frm 52 [(2, .sc (.slice none 0 0)), (4, .sc (.slice none 0 0)), (11, .sl 7 0 m.length 2 none), (12, int m.length), (13, int 0)], 52, hK0 c e sp (encS m), []⟩
noncomputable abbrev cn1 (c : List V) (e : TypeId) (sp : Bool) (m : List Sp) (p : Nat) (u : List V) (k : Nat) : St := ⟨frm 52 [(2, .sc (.slice none 0 0)), (4, .sl 8 0 (p + 1) 2 none), (11, .sl 7 0 m.length 2 none), (12, int m.length), (13, int k)], 52, hK1 c e sp (encS m) u, []⟩
noncomputable abbrev cnE (c : List V) (e : TypeId) (sp : Bool) (m : List Sp) (p : Nat) (u : List V) : St := ⟨frm 52 [(2, .sc (.slice none 0 0)), (4, .sl 8 0 (p + 1) 2 none)], 52, hK1 c e sp (encS m) u, []⟩
theorem subone (p : Nat) (h : p < 100000000) : int (IntKind.i64.wrap (((p + 1 : Nat) : Int) - 1)) = int p := int_eq (by rw [wrap_id (by omega) (by omega)]; omega)
theorem encS_last {pre : List Sp} {y : Sp} : (encS (pre ++ [y]))[0 + pre.length * 2 + 1]? = some (int y.2) := by
  have r := row2_enc (pre ++ [y])
  have h := r.at1 (k := pre.length) (by simp)
  simpa using h
theorem encS_put {pre : List Sp} {y : Sp} {z : Int} : (encS (pre ++ [y])).take (0 + pre.length * 2 + 1) ++ [int z] ++ (encS (pre ++ [y])).drop (0 + pre.length * 2 + 1 + [int z].length) = encS (pre ++ [(y.1, z)]) := by
  rw [encS_app, encS_app]
  have hl := encS_len pre
  have e1 : encS [y] = [int y.1, int y.2] := rfl
  have e2 : encS [(y.1, z)] = [int y.1, int z] := rfl
  rw [e1, e2, List.take_append, List.drop_append]
  rw [List.take_of_length_le (by omega), List.drop_of_length_le (by simp; omega), hl]
  rw [show 0 + pre.length * 2 + 1 - pre.length * 2 = 1 by omega, show 0 + pre.length * 2 + 1 + [int z].length - pre.length * 2 = 2 by simp; omega]
  simp
theorem cn_loop (w : World) {c : List V} (hc : FlatC c) {e : TypeId} {sp : Bool} {m : List Sp} (hm : m.length ≤ 1000000) : ∀ (d k : Nat) (pre : List Sp) (y : Sp), k + d = m.length → pre.length + 1 ≤ k →
    ∃ pre' y', mergeL pre y (m.drop k) = pre' ++ [y'] ∧ LTri (En 7) w 7 true (rnd Tryz.f73 0) (cn1 c e sp m pre.length (encS (pre ++ [y])) k) (.exit 0) (cnE c e sp m pre'.length (encS (pre' ++ [y']))) := by
  intro d
  induction d with
  | zero =>
    intro k pre y hk hp
    refine ⟨pre, y, by rw [List.drop_eq_nil_of_le (by omega)]; rfl, ?_⟩
    exact LTri.leave (fun h => by cases h) (Tri.of_pass (S := [(14, .eq (boo false))]) (kK1 [2, 4]) mixedP nocall_ok [boo (decide ((k : Int) < (m.length : Int))) = boo false, SameO (kK1 []).ρ (.cells c e sp), SameO (kK1 []).ρ (.cells (encS m) 23 true), SameO (kK1 []).ρ (.cells (encS (pre ++ [y])) 23 true)] (by kernel_rfl)
      ⟨dec_f (by omega), sameO hc, sameO (encS_flat m), sameO (encS_flat _)⟩)
  | succ d ih =>
    intro k pre y hk hp
    have hlt : k < m.length := by omega
    rw [List.drop_eq_getElem_cons hlt]
    have R := row2_enc m
    by_cases hle : m[k].1 ≤ y.2
    · obtain ⟨pre', y', h1, h2⟩ := ih (k + 1) pre (y.1, max y.2 m[k].2) (by omega) (by omega)
      refine ⟨pre', y', by simp only [mergeL, if_pos hle]; exact h1, LTri.pass ?_ h2⟩
      exact Tri.of_pass (S := [(14, .eq (boo true)), (15, .ix k), (16, .ld (.agg [int m[k].1, int m[k].2])), (20, .eq (boo true)), (26, .eq (int pre.length)), (27, .ix pre.length), (29, .ld (int y.2)), (30, .eq (boo true)), (34, .eq (int pre.length)), (37, .eq (int pre.length)), (38, .ix pre.length), (40, .ld (int y.2)), (43, .eq (int (max y.2 m[k].2))), (44, .ix pre.length), (100045, .st (encS (pre ++ [(y.1, max y.2 m[k].2)]))), (50, .eq (int (k + 1 : Nat)))]) (kK1 keepc) mixedP nocall_ok
        [boo (decide ((k : Int) < (m.length : Int))) = boo true, (k : Int) = (k : Int), k < m.length, ((encS m).drop (0 + k * 2)).take 2 = [int m[k].1, int m[k].2], boo (decide ((0 : Int) < ((pre.length + 1 : Nat) : Int))) = boo true, int (IntKind.i64.wrap (((pre.length + 1 : Nat) : Int) - 1)) = int pre.length, (pre.length : Int) = (pre.length : Int), pre.length < pre.length + 1,
          (encS (pre ++ [y]))[0 + pre.length * 2 + 1]? = some (int y.2), boo (decide (m[k].1 ≤ y.2)) = boo true, int (IntKind.i64.wrap (((pre.length + 1 : Nat) : Int) - 1)) = int pre.length, int (IntKind.i64.wrap (((pre.length + 1 : Nat) : Int) - 1)) = int pre.length, (pre.length : Int) = (pre.length : Int), pre.length < pre.length + 1,
          (encS (pre ++ [y]))[0 + pre.length * 2 + 1]? = some (int y.2), int (if y.2 < m[k].2 then m[k].2 else y.2) = int (max y.2 m[k].2), (pre.length : Int) = (pre.length : Int), pre.length < pre.length + 1, 0 + pre.length * 2 + 1 + [int (max y.2 m[k].2)].length ≤ (encS (pre ++ [y])).length,
          (encS (pre ++ [y])).take (0 + pre.length * 2 + 1) ++ [int (max y.2 m[k].2)] ++ (encS (pre ++ [y])).drop (0 + pre.length * 2 + 1 + [int (max y.2 m[k].2)].length) = encS (pre ++ [(y.1, max y.2 m[k].2)]), int (IntKind.i64.wrap ((k : Int) + 1)) = int (k + 1 : Nat),
          SameO (kK1 []).ρ (.cells c e sp), SameO (kK1 []).ρ (.cells (encS m) 23 true), SameO (kK1 []).ρ (.cells (encS (pre ++ [(y.1, max y.2 m[k].2)])) 23 true)] (by kernel_rfl)
        ⟨dec_t (by omega), rfl, hlt, R.at_ hlt, dec_t (by omega), subone _ (by omega), rfl, by omega, encS_last, dec_t hle, subone _ (by omega), subone _ (by omega), rfl, by omega, encS_last, int_eq (by split <;> omega), rfl, by omega, by rw [encS_len]; simp; omega, encS_put, hwr (by omega), sameO hc, sameO (encS_flat m), sameO (encS_flat _)⟩
    · obtain ⟨pre', y', h1, h2⟩ := ih (k + 1) (pre ++ [y]) m[k] (by omega) (by simp; omega)
      rw [List.length_append, show [y].length = 1 from rfl] at h2
      refine ⟨pre', y', by simp only [mergeL, if_neg hle]; exact h1, LTri.pass ?_ h2⟩
      have hsn : (encS (pre ++ [y])).take ((pre.length + 1) * 2) ++ [int m[k].1, int m[k].2] = encS (pre ++ [y] ++ [m[k]]) := by
        have := encS_snoc (pre ++ [y]) m[k].1 m[k].2
        rw [List.length_append, show [y].length = 1 from rfl] at this
        exact this
      exact Tri.of_pass (S := [(14, .eq (boo true)), (15, .ix k), (16, .ld (.agg [int m[k].1, int m[k].2])), (20, .eq (boo true)), (26, .eq (int pre.length)), (27, .ix pre.length), (29, .ld (int y.2)), (30, .eq (boo false)), (49, .ap (encS (pre ++ [y] ++ [m[k]]))), (50, .eq (int (k + 1 : Nat)))]) (kKa keepc) mixedP nocall_ok
        [boo (decide ((k : Int) < (m.length : Int))) = boo true, (k : Int) = (k : Int), k < m.length, ((encS m).drop (0 + k * 2)).take 2 = [int m[k].1, int m[k].2], boo (decide ((0 : Int) < ((pre.length + 1 : Nat) : Int))) = boo true, int (IntKind.i64.wrap (((pre.length + 1 : Nat) : Int) - 1)) = int pre.length, (pre.length : Int) = (pre.length : Int), pre.length < pre.length + 1,
          (encS (pre ++ [y]))[0 + pre.length * 2 + 1]? = some (int y.2), boo (decide (m[k].1 ≤ y.2)) = boo false, pre.length + 1 + 1 ≤ 1048576, (pre.length + 1) * 2 ≤ (encS (pre ++ [y])).length, (encS (pre ++ [y])).take ((pre.length + 1) * 2) ++ [int m[k].1, int m[k].2] = encS (pre ++ [y] ++ [m[k]]), int (IntKind.i64.wrap ((k : Int) + 1)) = int (k + 1 : Nat),
          SameO (kKa []).ρ (.cells c e sp), SameO (kKa []).ρ (.cells (encS m) 23 true), SameO (kKa []).ρ (.cells (encS (pre ++ [y] ++ [m[k]])) 23 true)] (by kernel_rfl)
        ⟨dec_t (by omega), rfl, hlt, R.at_ hlt, dec_t (by omega), subone _ (by omega), rfl, by omega, encS_last, dec_f hle, by omega, by rw [encS_len]; simp, hsn, hwr (by omega), sameO hc, sameO (encS_flat m), sameO (encS_flat _)⟩
theorem blk73 : blk Tryz.f73 0 = .block 0 (.loop (rnd Tryz.f73 0)) := by kernel_rfl
/-- What site.canon answers. -/
def canonL (l : List Sp) : List Sp := mergeF (sortd l)
theorem canon_run (w : World) {c : List V} {e : TypeId} {sp : Bool} {cap : Option Nat} {l : List Sp} (R : Row2 c 0 l) (hl : l.length ≤ 1000000) (hne : l ≠ []) :
    ∃ pre y, canonL l = pre ++ [y] ∧ ∃ h1 : Hp, h1.at_ 8 = some (.cells (encS (pre ++ [y])) 23 true) ∧ FnOK (En 7) w 73 [.sl 6 0 l.length 2 cap] (hA c e sp) (.sl 8 0 (pre.length + 1) 2 none) h1 := by
  obtain ⟨x, r, hm⟩ : ∃ x r, sortd l = x :: r := by
    cases hs : sortd l with
    | nil =>
      have := sortd_len l
      rw [hs] at this
      exact absurd (List.length_eq_zero_iff.1 this.symm) hne
    | cons x r => exact ⟨x, r, rfl⟩
  have hml : (sortd l).length = l.length := sortd_len l
  have hlen : r.length + 1 = l.length := by rw [← hml, hm]; rfl
  obtain ⟨pre, y, h1, h2⟩ := cn_loop w R.flat (e := e) (sp := sp) (m := sortd l) (by omega) (l.length - 1) 1 [] x (by omega) (by simp)
  have hd1 : (sortd l).drop 1 = r := by rw [hm]; rfl
  rw [hd1] at h1
  refine ⟨pre, y, by unfold canonL; rw [hm]; exact h1, ?_⟩
  have hget : (sortd l)[0]'(by omega) = x := by simp [hm]
  have t1 : ((encS (sortd l)).drop 0).take 2 = [int x.1, int x.2] := by
    have := (row2_enc (sortd l)).at_ (k := 0) (by omega)
    rw [hget] at this
    simpa using this
  have first : Tri (En 7) w 7 true (rnd Tryz.f73 0) (cn0 c e sp (sortd l)) .norm (cn1 c e sp (sortd l) 0 [int x.1, int x.2] 1) :=
    Tri.of_pass (S := [(14, .eq (boo true)), (15, .ix 0), (16, .ld (.agg [int x.1, int x.2])), (50, .eq (int 1))]) (kK0 keepc) mixedP nocall_ok
      [boo (decide ((0 : Int) < ((sortd l).length : Int))) = boo true, (0 : Int) = ((0 : Nat) : Int), 0 < (sortd l).length, ((encS (sortd l)).drop 0).take 2 = [int x.1, int x.2], int (IntKind.i64.wrap (0 + 1)) = int 1,
        SameO (kK0 []).ρ (.cells c e sp), SameO (kK0 []).ρ (.cells (encS (sortd l)) 23 true), SameO (kK0 []).ρ (.cells [int x.1, int x.2] 23 true)] (by kernel_rfl)
      ⟨dec_t (by omega), rfl, by omega, t1, rfl, sameO R.flat, sameO (encS_flat _), sameO (encS_flat [x])⟩
  have whole := LTri.pass first h2
  have hr := Tri.rnd blk73 whole
  have vo : FnOK (En 7) w 110 [.sl 6 0 l.length 2 cap] (hA c e sp) (.fn 126 [] [.ptr 7 0]) (hV c e sp l.length cap) := Values_ok w
  have so := SortedFunc_ok w (cap := cap) (e := e) (sp := sp) R hl hne (sort_ok w hl hne)
  rw [← hml] at vo so ⊢
  exact FnOK.of_sfunb mixedP noGo Tryz.func73 [(9, .call (.fn 126 [] [.ptr 7 0]) (hV c e sp (sortd l).length cap)), (10, .call (.sl 9 0 (sortd l).length 2 none) (hC c e sp (sortd l).length cap (encS (sortd l)))), (400000, .code (kKs keepc) .norm (cnE c e sp (sortd l) pre.length (encS (pre ++ [y]))))]
    [FnOK (En 7) w 110 [.sl 6 0 (sortd l).length 2 cap] (hA c e sp) (.fn 126 [] [.ptr 7 0]) (hV c e sp (sortd l).length cap),
      FnOK (En 7) w 109 [.fn 126 [] [.ptr 7 0], .fn 111 [] []] (hV c e sp (sortd l).length cap) (.sl 9 0 (sortd l).length 2 none) (hC c e sp (sortd l).length cap (encS (sortd l))),
      SameO (kKs []).ρ (.cells c e sp), SameO (kKs []).ρ (.cells (encS (sortd l)) 23 true), Tri (En 7) w 7 true (blk Tryz.f73 0) (cn0 c e sp (sortd l)) .norm (cnE c e sp (sortd l) pre.length (encS (pre ++ [y])))] (by kernel_rfl)
    ⟨vo, so, sameO R.flat, sameO (encS_flat _), hr⟩
theorem canon_cn {r : Nat} (hr : 6 ≤ r) {w0 : World} {b : Nat} {c : List V} {e : TypeId} {sp : Bool} {cap : Option Nat} {l : List Sp} (R : Row2 c 0 l) (hl : l.length ≤ 1000000) (hne : l ≠ []) : CnOK (En r) w0 73 [.sl b 0 l.length 2 cap] [(b, .cells c e sp)] (canonL l).length 2 none (encS (canonL l)) 23 true := by
  intro h hh
  obtain ⟨pre, y, h1, _⟩ := canon_run w0 (e := e) (sp := sp) (cap := cap) R hl hne
  rw [h1]
  have hlen : (pre ++ [y]).length = pre.length + 1 := by simp
  rw [hlen]
  refine new1 (i1 := 8) (args0 := [.sl 6 0 l.length 2 cap]) (by omega) (.inl (by omega)) (flatO R.flat) (flatO (encS_flat _)) (fun w => ?_) hr hh.1 (by simp [rvals, rval, rcell, rleaf])
  obtain ⟨pre2, y2, k1, k2⟩ := canon_run w (e := e) (sp := sp) (cap := cap) R hl hne
  have : pre2 ++ [y2] = pre ++ [y] := k1.symm.trans h1
  have hp : pre2.length = pre.length := by have := congrArg List.length this; simpa using this
  rw [this, hp] at k2
  exact k2
/-! ### site.canon, where there is no span -/
theorem Values0_ok (w : World) {c : List V} {e : TypeId} {sp : Bool} {cap : Option Nat} : FnOK (En 7) w 126 [.yl 10, .ptr 7 0] (hL0 c e sp 0 cap) (.tup []) (hL0 c e sp 0 cap) :=
  FnOK.of_sfun mixedP noGo Tryz.func126 [] [] (by kernel_rfl) trivial
noncomputable abbrev hN1 (c : List V) (e : TypeId) (sp : Bool) (cap : Option Nat) : Hp := ⟨10, mkH [(6, .cells c e sp), (7, .cells [.sl 6 0 0 2 cap] 24 false), (8, .cells [.sc (.slice none 0 0)] 24 false), (9, .dfr)]⟩
noncomputable abbrev hN (c : List V) (e : TypeId) (sp : Bool) (cap : Option Nat) : Hp := ⟨10, mkH [(6, .cells c e sp), (7, .cells [.sl 6 0 0 2 cap] 24 false), (8, .cells [.sc (.slice none 0 0)] 24 false), (9, .dead)]⟩
abbrev kN (keep : List Nat) : Wk := ⟨8, [(6, 6, true), (7, 7, false), (8, 8, false), (9, 9, false)], keep, [], 10⟩
noncomputable abbrev rfE0 (c : List V) (e : TypeId) (sp : Bool) (cap : Option Nat) : St := ⟨F134, 13, hN1 c e sp cap, [9]⟩
theorem rf0_ok (w : World) {c : List V} (hc : FlatC c) {e : TypeId} {sp : Bool} {cap : Option Nat} : Tri (En 7) w 8 true (rfC Tryz.f134) (rfS c e sp 0 cap) .norm (rfE0 c e sp cap) := by
  rw [rf134]
  have ok : FnOK (En 7) w 126 ([] ++ .yl ((rfS c e sp 0 cap).h.n + 1) :: [.ptr 7 0]) (((rfS c e sp 0 cap).h.new .dfr).new (.loop .ready none (rfS c e sp 0 cap).t (rfS c e sp 0 cap).n (#[7] : Array Tmp).toList (rfAs Tryz.f134) (rfBd Tryz.f134) (rfS c e sp 0 cap).h.n)) (.tup []) (hL0 c e sp 0 cap) := by
    have h1 : (((rfS c e sp 0 cap).h.new .dfr).new (.loop .ready none (rfS c e sp 0 cap).t (rfS c e sp 0 cap).n (#[7] : Array Tmp).toList (rfAs Tryz.f134) (rfBd Tryz.f134) (rfS c e sp 0 cap).h.n)) = hL0 c e sp 0 cap := by kernel_rfl
    rw [h1]
    exact Values0_ok w
  have t := Tri.rangeFn (B := 8) (f := .tmp 6) (ps := #[7]) («as» := rfAs Tryz.f134) (bd := rfBd Tryz.f134) (st := rfS c e sp 0 cap) (by kernel_rfl) ok (s := .ready) (t := F134) (n := 13) (qs := [7]) (as' := rfAs Tryz.f134) (bd' := rfBd Tryz.f134) (D := 9) (by kernel_rfl) rfl (by kernel_rfl)
  have h2 : SM.wk (En 7) (kN [2, 4, 6]) { (rfS c e sp 0 cap) with h := (hL0 c e sp 0 cap).put 10 (lp .exhausted), d := [9] } = some (rfE0 c e sp cap, [SameO (kN []).ρ (.cells c e sp)]) := by kernel_rfl
  exact t.post h2 (sameO hc)
theorem sort_none (w0 : World) {h : Hp} : FnOK (En 7) w0 125 [.sc (.slice none 0 0), .fn 111 [] []] h (.tup []) h := by
  refine FnOK.of_calls noGo Tryz.func125 (by kernel_rfl) fun σ w args' r g ha => ?_
  cases ha with
  | cons h1 ha =>
  cases ha with
  | cons h2 ha =>
  cases ha with
  | nil =>
  obtain rfl := (RT.val h1).sc_inv
  refine Calls.mono (AnyF.slices_SortFunc_none Tryz.sortSp none 0 _ w) ?_
  rintro en w' ⟨rfl, rfl⟩
  exact ⟨_, σ, rfl, Ren.le_refl σ, r, .tup .nil⟩
theorem canon_none {r : Nat} (hr : 6 ≤ r) {w0 : World} {b : Nat} {c : List V} {e : TypeId} {sp : Bool} {cap : Option Nat} (hc : FlatC c) : CvOK (En r) w0 73 [.sl b 0 0 2 cap] [(b, .cells c e sp)] (.sc (.slice none 0 0)) := by
  intro h hh
  refine pure1 (args0 := [.sl 6 0 0 2 cap]) noId_sc (flatO hc) (fun w => ?_) hr hh.1 (by simp [rvals, rval, rcell, rleaf])
  have a1 : FnOK (En 7) w 134 [.sc (.slice none 0 0), .fn 126 [] [.ptr 7 0]] (hV c e sp 0 cap) (.sc (.slice none 0 0)) (hN c e sp cap) :=
    FnOK.of_sfun mixedP noGo Tryz.func134 [(500000, .code (kR0 [2, 4, 6]) .norm (rfE0 c e sp cap))] [SameO (kR0 []).ρ (.cells c e sp), Tri (En 7) w 8 true (rfC Tryz.f134) (rfS c e sp 0 cap) .norm (rfE0 c e sp cap)] (by kernel_rfl) ⟨sameO hc, rf0_ok w hc⟩
  have a2 : FnOK (En 7) w 124 [.fn 126 [] [.ptr 7 0]] (hV c e sp 0 cap) (.sc (.slice none 0 0)) (hN c e sp cap) :=
    FnOK.of_sfun mixedP noGo Tryz.func124 [(4, .call (.sc (.slice none 0 0)) (hN c e sp cap))] [FnOK (En 7) w 134 [.sc (.slice none 0 0), .fn 126 [] [.ptr 7 0]] (hV c e sp 0 cap) (.sc (.slice none 0 0)) (hN c e sp cap)] (by kernel_rfl) a1
  have a3 : FnOK (En 7) w 109 [.fn 126 [] [.ptr 7 0], .fn 111 [] []] (hV c e sp 0 cap) (.sc (.slice none 0 0)) (hN c e sp cap) :=
    FnOK.of_sfun mixedP noGo Tryz.func109 [(7, .call (.sc (.slice none 0 0)) (hN c e sp cap)), (10, .call (.tup []) (hN c e sp cap))]
      [FnOK (En 7) w 124 [.fn 126 [] [.ptr 7 0]] (hV c e sp 0 cap) (.sc (.slice none 0 0)) (hN c e sp cap), FnOK (En 7) w 125 [.sc (.slice none 0 0), .fn 111 [] []] (hN c e sp cap) (.tup []) (hN c e sp cap)] (by kernel_rfl) ⟨a2, sort_none w⟩
  exact FnOK.of_sfunv mixedP noGo Tryz.func73 [(9, .call (.fn 126 [] [.ptr 7 0]) (hV c e sp 0 cap)), (10, .call (.sc (.slice none 0 0)) (hN c e sp cap))]
    [FnOK (En 7) w 110 [.sl 6 0 0 2 cap] (hA c e sp) (.fn 126 [] [.ptr 7 0]) (hV c e sp 0 cap), FnOK (En 7) w 109 [.fn 126 [] [.ptr 7 0], .fn 111 [] []] (hV c e sp 0 cap) (.sc (.slice none 0 0)) (hN c e sp cap)] (by kernel_rfl) ⟨Values_ok w, a3⟩
theorem mapped_none {r : Nat} (hr : 6 ≤ r) {w0 : World} {b o : Nat} {c : List V} {e : TypeId} {sp : Bool} {cap : Option Nat} (hc : FlatC c) : CvOK (En r) w0 72 [.sl b o 0 2 cap, .fn 20 [] []] [(b, .cells c e sp)] (.sc (.slice none 0 0)) := by
  intro h hh
  refine pure1 (args0 := [.sl 6 o 0 2 cap, .fn 20 [] []]) noId_sc (flatO hc) (fun w => ?_) hr hh.1 (by simp [rvals, rval, rcell, rleaf, rleafs])
  exact FnOK.of_sfunv mixedP noGo Tryz.func72 [] [] (by kernel_rfl) trivial

/-! ### site.Canon -/
theorem tup_ne {i n es : Nat} {cap : Option Nat} {x : Int} (h : n ≠ 0 ∨ cap.isSome = true) (σ : SM.Ren) (v' : Value) (hv : RT σ (.tup [.sl i 0 n es cap, int x]) v') : ∃ b, σ i = some b := by
  cases hv with
  | val h => cases h with
    | cell h => cases h with
      | leaf h => cases h
  | tup h => cases h with
    | cons h1 _ => exact sl_ne h σ _ (.val h1)
/-- A slice of a new block, and a number. -/
theorem newT {f : FuncId} {args args0 : List V} {n es i1 : Nat} {cap : Option Nat} {x : Int} {c c1 : List V} {e e1 : TypeId} {sp sp1 : Bool} (hi : 7 ≤ i1) (hnz : n ≠ 0 ∨ cap.isSome = true) (hfl : Flat (.cells c e sp)) (hfl1 : Flat (.cells c1 e1 sp1))
    (ok : ∀ w, ∃ h1 : Hp, h1.at_ i1 = some (.cells c1 e1 sp1) ∧ FnOK (En 7) w f args0 ⟨7, mkH [(6, .cells c e sp)]⟩ (.tup [.sl i1 0 n es cap, int x]) h1)
    {r : Nat} (hr : 6 ≤ r) {w0 : World} {h : Hp} {b : Nat} (hb : h.at_ b = some (.cells c e sp)) (ha : rvals (fun i => bif Nat.beq i b then some 6 else none) args = args0) : FnOK (En r) w0 f args h (.tup [.sl h.n 0 n es cap, int x]) (h.new (.cells c1 e1 sp1)) := by
  refine FnOK.sub1 (E := En r) (h0 := ⟨7, mkH [(6, .cells c e sp)]⟩) (args0 := args0) (v := .tup [.sl i1 0 n es cap, int x]) (i1 := i1) (fun j => if j = 6 then b else j) (fun i => bif Nat.beq i b then some 6 else none) (sub_one hfl hb) (fun i j h => rho_one h) ha (fun j hj hg => ?_) hr hi hfl1 _ (by simp [rtmp, rvals, rval, rcell, rleaf]) (tup_ne hnz) ok
  have hj : j < 7 := hj
  have hg : 6 ≤ j := hg
  rw [if_pos (by omega)]
  exact ⟨_, hb, rfl⟩
/-- site.Canon, where something is wrong, or where there is no span. -/
theorem Canon_bad {r : Nat} (hr : 6 ≤ r) {w0 : World} {b : Nat} {c : List V} {e : TypeId} {sp : Bool} {cap : Option Nat} {l : List Sp} (R : Row2 c 0 l) (hl : l.length ≤ 1000000) {x : Int} (hx : anyE l = x) (h0 : x ≠ 0 ∨ l = []) : CvOK (En r) w0 13 [.sl b 0 l.length 2 cap] [(b, .cells c e sp)] (.tup [.sc (.slice none 0 0), int x]) := by
  intro h hh
  subst hx
  refine pure1 (args0 := [.sl 6 0 l.length 2 cap]) (noId_of rfl) (flatO R.flat) (fun w => ?_) hr hh.1 (by simp [rvals, rval, rcell, rleaf])
  by_cases hm : 1024 < l.length
  · rw [show anyE l = 5 from if_pos hm]
    exact FnOK.of_sfunv mixedP noGo Tryz.func13 [(7, .eq (boo true))] [boo (decide ((1024 : Int) < (l.length : Int))) = boo true] (by kernel_rfl) (dec_t (by omega))
  · rw [show anyE l = anyL l from if_neg hm] at h0 ⊢
    by_cases hn : l = []
    · subst hn
      exact FnOK.of_sfunv mixedP noGo Tryz.func13 [(9, .cv (.sc (.slice none 0 0))), (10, .cv (int 0)), (15, .cv (.sc (.slice none 0 0)))]
        [CvOK (En 7) w 72 [.sl 6 0 0 2 cap, .fn 20 [] []] [(6, .cells c e sp)] (.sc (.slice none 0 0)), CvOK (En 7) w 71 [.sc (.slice none 0 0)] [] (int 0), CvOK (En 7) w 73 [.sl 6 0 0 2 cap] [(6, .cells c e sp)] (.sc (.slice none 0 0))] (by kernel_rfl)
        ⟨mapped_none (by omega) R.flat, first_nil (by omega), canon_none (by omega) R.flat⟩
    · have h14 : anyL l = 14 := by
        rcases anyL_cases l with h | h
        · rcases h0 with h1 | h1
          · exact absurd h h1
          · exact absurd h1 hn
        · exact h
      rw [h14]
      exact FnOK.of_sfunv mixedP noGo Tryz.func13 [(7, .eq (boo false)), (9, .cn l.length 1 none ((errs l).map int) 27 true), (10, .cv (int 14))]
        [boo (decide ((1024 : Int) < (l.length : Int))) = boo false, CnOK (En 7) w 72 [.sl 6 0 l.length 2 cap, .fn 20 [] []] [(6, .cells c e sp)] l.length 1 none ((errs l).map int) 27 true, CvOK (En 7) w 71 [.sl 7 0 l.length 1 none] [(7, .cells ((errs l).map int) 27 true)] (int 14)] (by kernel_rfl)
        ⟨dec_f (by omega), mapped_cn (by omega) R hl hn, h14 ▸ firstErr_cv (by omega) hl⟩
theorem canonL_ne {l : List Sp} (hne : l ≠ []) : (canonL l).length ≠ 0 := by
  unfold canonL
  have hml := sortd_len l
  cases hs : sortd l with
  | nil => rw [hs] at hml; exact absurd (List.length_eq_zero_iff.1 hml.symm) hne
  | cons x r =>
    have : ∀ (r pre : List Sp) (y : Sp), (mergeL pre y r).length ≠ 0 := by
      intro r
      induction r with
      | nil => intro pre y; simp [mergeL]
      | cons z r ih => intro pre y; simp only [mergeL]; split; exact ih _ _; exact ih _ _
    exact this r [] x
/-- site.Canon, where all is well. -/
theorem Canon_good {r : Nat} (hr : 6 ≤ r) {w0 : World} {b : Nat} {c : List V} {e : TypeId} {sp : Bool} {cap : Option Nat} {l : List Sp} (R : Row2 c 0 l) (hl : l.length ≤ 1024) (hne : l ≠ []) (h0 : anyL l = 0) {h : Hp} (hb : h.at_ b = some (.cells c e sp)) :
    FnOK (En r) w0 13 [.sl b 0 l.length 2 cap] h (.tup [.sl h.n 0 (canonL l).length 2 none, int 0]) (h.new (.cells (encS (canonL l)) 23 true)) := by
  refine newT (i1 := 8) (args0 := [.sl 6 0 l.length 2 cap]) (by omega) (.inl (canonL_ne hne)) (flatO R.flat) (flatO (encS_flat _)) (fun w => ?_) hr hb (by simp [rvals, rval, rcell, rleaf])
  have hl' : l.length ≤ 1000000 := by omega
  exact FnOK.of_sfunb mixedP noGo Tryz.func13 [(7, .eq (boo false)), (9, .cn l.length 1 none ((errs l).map int) 27 true), (10, .cv (int 0)), (15, .cn (canonL l).length 2 none (encS (canonL l)) 23 true)]
    [boo (decide ((1024 : Int) < (l.length : Int))) = boo false, CnOK (En 7) w 72 [.sl 6 0 l.length 2 cap, .fn 20 [] []] [(6, .cells c e sp)] l.length 1 none ((errs l).map int) 27 true, CvOK (En 7) w 71 [.sl 7 0 l.length 1 none] [(7, .cells ((errs l).map int) 27 true)] (int 0),
      CnOK (En 7) w 73 [.sl 6 0 l.length 2 cap] [(6, .cells c e sp)] (canonL l).length 2 none (encS (canonL l)) 23 true] (by kernel_rfl)
    ⟨dec_f (by omega), mapped_cn (by omega) R hl' hne, h0 ▸ firstErr_cv (by omega) hl', canon_cn (by omega) R hl' hne⟩
/-! ### What both answer -/
theorem anyL_valid {l : List Sp} (h : anyL l = 0) : ∀ s ∈ l, spanE s = 0 := by
  induction l with
  | nil => intro s hs; cases hs
  | cons x r ih =>
    simp only [anyL] at h
    split at h
    · rename_i h0
      intro s hs
      rcases List.mem_cons.1 hs with rfl | hs
      · exact h0
      · exact ih h s hs
    · cases h
theorem anyL_of_valid {l : List Sp} (h : ∀ s ∈ l, spanE s = 0) : anyL l = 0 := by
  induction l with
  | nil => rfl
  | cons x r ih =>
    simp only [anyL]
    rw [if_pos (h x (List.mem_cons_self ..))]
    exact ih fun s hs => h s (List.mem_cons_of_mem _ hs)
theorem want1 (l : List Sp) (q : Nat) : wantK (marked l []) [1] q = cov l q := by
  have : marked l [] q = if cov l q then 1 else 0 := by
    unfold marked markF
    rw [cov_nil]
    cases cov l q
    · rfl
    · simp [orI]
  unfold wantK
  rw [this]
  cases cov l q <;> rfl
theorem pick_canon {l : List Sp} (hv : ∀ s ∈ l, spanE s = 0) : pickF l [] [1] = canonL l := by
  obtain ⟨p1, p2⟩ := pickF_spec (la := l) (lb := []) (want := [1]) (by rw [want1]; exact cov_top hv)
  have hp := sortd_perm l
  obtain ⟨c1, c2⟩ := mergeF_spec (l := sortd l) (fun s hs => hv s (hp.mem_iff.1 hs)) (sortd_sorted l)
  refine canon_unique p1 c1 fun q hq => ?_
  show _ = cov (mergeF (sortd l)) q
  rw [p2 q hq, want1, c2 q, cov_perm hp q]
theorem mergeL_len : ∀ (l pre : List Sp) (y : Sp), (mergeL pre y l).length ≤ pre.length + 1 + l.length := by
  intro l
  induction l with
  | nil => intro pre y; simp [mergeL]
  | cons x r ih =>
    intro pre y
    simp only [mergeL]
    split
    · have := ih pre (y.1, max y.2 x.2)
      simp only [List.length_cons]
      omega
    · have := ih (pre ++ [y]) x
      simp only [List.length_cons, List.length_append, List.length_nil] at this ⊢
      omega
theorem canonL_len (l : List Sp) : (canonL l).length ≤ l.length := by
  unfold canonL
  have hl := sortd_len l
  cases hs : sortd l with
  | nil => rw [hs] at hl; simp [mergeF]
  | cons x r =>
    rw [hs] at hl
    have := mergeL_len r [] x
    simp only [List.length_nil, List.length_cons] at this hl
    show (mergeL [] x r).length ≤ _
    omega

theorem canonL_nil : canonL [] = [] := List.length_eq_zero_iff.1 (Nat.le_zero.1 (canonL_len []))
theorem pick_nil : pickF [] [] [1] = [] := (pick_canon (l := []) (fun s hs => by cases hs)).trans canonL_nil
/-! ### listed, number -/
theorem listed_bad {r : Nat} (hr : 6 ≤ r) {w0 : World} {x : Int} (hx : x ≠ 0) : CvOK (En r) w0 23 [.sc (.slice none 0 0), int x, int x, .sc (.slice none 0 0)] [] (boo true) := by
  intro h _
  refine pure0 rfl noId_sc (fun w => ?_) hr
  exact FnOK.of_sfunv mixedP noGo Tryz.func23 [(10, .eq (boo false)), (17, .eq (boo true)), (24, .eq (boo true))] [boo (x == 0) = boo false, boo (x != 0) = boo true, boo (x == x) = boo true] (by kernel_rfl) ⟨boo_eq (by simp [hx]), boo_eq (by simp [hx]), boo_eq (by simp)⟩
theorem listed_nil {r : Nat} (hr : 6 ≤ r) {w0 : World} : CvOK (En r) w0 23 [.sc (.slice none 0 0), int 0, int 0, .sc (.slice none 0 0)] [] (boo true) := by
  intro h _
  refine pure0 rfl noId_sc (fun w => ?_) hr
  exact FnOK.of_sfunv mixedP noGo Tryz.func23 [(31, .cv (boo true))] [CvOK (En 6) w 33 [.sc (.slice none 0 0), .sc (.slice none 0 0)] [] (boo true)] (by kernel_rfl)
    (SameSpans_cv (o1 := []) (o2 := []) (l := []) (Nat.le_refl _) (fun _ _ => .nil) (fun _ _ => .nil) (fun x hx => by cases hx) (by simp))
theorem listed_good {r : Nat} (hr : 6 ≤ r) {w0 : World} {a b : Nat} (hab : a ≠ b) {e e2 : TypeId} {sp sp2 : Bool} {cap cap2 : Option Nat} {m : List Sp} (hm : m.length ≤ 1024) :
    CvOK (En r) w0 23 [.sl a 0 m.length 2 cap, int 0, int 0, .sl b 0 m.length 2 cap2] [(a, .cells (encS m) e sp), (b, .cells (encS m) e2 sp2)] (boo true) := by
  intro h hh
  refine pure2 (args0 := [.sl 6 0 m.length 2 cap, int 0, int 0, .sl 7 0 m.length 2 cap2]) noId_sc (flatO (encS_flat m)) (flatO (encS_flat m)) (fun w => ?_) hr hh.1 hh.2.1 ?_
  · exact FnOK.of_sfunv mixedP noGo Tryz.func23 [(14, .eq (boo false)), (31, .cv (boo true))] [boo (decide ((1024 : Int) < (m.length : Int))) = boo false, CvOK (En 8) w 33 [.sl 6 0 m.length 2 cap, .sl 7 0 m.length 2 cap2] [(6, .cells (encS m) e sp), (7, .cells (encS m) e2 sp2)] (boo true)] (by kernel_rfl)
      ⟨dec_f (by omega), SameSpans_cv (o1 := [(6, .cells (encS m) e sp)]) (o2 := [(7, .cells (encS m) e2 sp2)]) (l := m) (by omega) (fun _ hh => .sl (row2_enc m) hh.1) (fun _ hh => .sl (row2_enc m) hh.1) (fun x hx y hy => by simp at hx hy; subst hx; subst hy; show 6 ≠ 7; decide) (by omega)⟩
  · have h1 : Nat.beq b a = false := beq_ne fun h => hab h.symm
    simp [rvals, rval, rcell, rleaf, h1]
theorem number_bad' {r0 : Nat} (hr : 6 ≤ r0) {w0 : World} {bad want : Int} (hb : bad ≠ 0) : CvOK (En r0) w0 24 [int 0, int bad, int bad, int want] [] (boo true) := by
  intro h _
  refine pure0 rfl noId_sc (fun w => ?_) hr
  exact FnOK.of_sfunv mixedP noGo Tryz.func24 [(10, .eq (boo true)), (16, .eq (boo true))] [boo (bad != 0) = boo true, boo (bad == bad) = boo true] (by kernel_rfl) ⟨boo_eq (by simp [hb]), boo_eq (by simp)⟩
theorem number_good' {r0 : Nat} (hr : 6 ≤ r0) {w0 : World} {n : Int} : CvOK (En r0) w0 24 [int n, int 0, int 0, int n] [] (boo true) := by
  intro h _
  refine pure0 rfl noId_sc (fun w => ?_) hr
  exact FnOK.of_sfunv mixedP noGo Tryz.func24 [(23, .eq (boo true))] [boo (n == n) = boo true] (by kernel_rfl) (boo_eq (by simp))

/-! ### The law -/
theorem law_nil (w : World) (ha : CvOK (En 6) w 11 [] [] (boo true)) (a b : Int) : ∃ h1, FnOK (En 6) w 3 [.agg [int a, int b], .sc (.slice none 0 0)] ⟨6, mkH []⟩ (boo true) h1 := by
  have a0 : ∀ (h : Hp), HasAll h [] → Arg2 h (.sc (.slice none 0 0)) [] [] := fun _ _ => .nil
  have ac : ∀ (i : Nat) (h : Hp), HasAll h [(i, .cells [] 23 false)] → Arg2 h (.sl i 0 0 2 (some 0)) [(i, .cells [] 23 false)] [] := fun i h hh => .sl (l := []) (row2_enc []) hh.1
  have sc : CnOK (En 6) w 14 [.sc (.slice none 0 0)] [] 0 2 (some 0) [] 23 false := spans_cn (l := []) (Nat.le_refl _) a0 (by simp)
  exact FnOK.of_sfunv mixedP noGo Tryz.func3 [(13, .cv (boo true)), (17, .cv (boo true)), (23, .cn 0 2 (some 0) [] 23 false), (24, .cv (.tup [.sc (.slice none 0 0), int 0])), (29, .cn 0 2 (some 0) [] 23 false), (30, .cv (.tup [int 0, int 0])), (34, .cv (int 0)), (36, .cv (int 0)), (40, .cv (.sc (.slice none 0 0))), (44, .cv (int 0)), (46, .cv (int (spanE (a, b)))), (48, .cv (int (spanE (a, b)))), (49, .eq (boo true)), (52, .cn 0 2 (some 0) [] 23 false), (53, .cv (int 0)), (62, .cv (boo true)), (69, .cv (boo true))]
    [CvOK (En 6) w 11 [] [] (boo true), CvOK (En 6) w 12 [.sc (.slice none 0 0), int 12] [] (boo true), CnOK (En 6) w 14 [.sc (.slice none 0 0)] [] 0 2 (some 0) [] 23 false, CvOK (En 6) w 13 [.sl 7 0 0 2 (some 0)] [(7, .cells [] 23 false)] (.tup [.sc (.slice none 0 0), int 0]),
      CnOK (En 6) w 14 [.sc (.slice none 0 0)] [] 0 2 (some 0) [] 23 false, CvOK (En 6) w 15 [.sl 8 0 0 2 (some 0)] [(8, .cells [] 23 false)] (.tup [int 0, int 0]), CvOK (En 6) w 16 [.sc (.slice none 0 0)] [] (int 0), CvOK (En 6) w 17 [.sc (.slice none 0 0)] [] (int 0),
      CvOK (En 6) w 18 [.sc (.slice none 0 0)] [] (.sc (.slice none 0 0)), CvOK (En 6) w 19 [.sc (.slice none 0 0)] [] (int 0), CvOK (En 6) w 20 [.agg [int a, int b]] [] (int (spanE (a, b))), CvOK (En 6) w 21 [.agg [int a, int b]] [] (int (spanE (a, b))),
      boo (spanE (a, b) == spanE (a, b)) = boo true, CnOK (En 6) w 14 [.sc (.slice none 0 0)] [] 0 2 (some 0) [] 23 false, CvOK (En 6) w 22 [.sl 9 0 0 2 (some 0)] [(9, .cells [] 23 false)] (int 0),
      CvOK (En 6) w 23 [.sc (.slice none 0 0), int 0, int 0, .sc (.slice none 0 0)] [] (boo true), CvOK (En 6) w 24 [int 0, int 0, int 0, int 0] [] (boo true), V.agg [int a, int b] = V.agg [int a, int b]] (by kernel_rfl)
    ⟨ha, ShortSpans_cv (l := []) (Nat.le_refl _) a0 rfl, sc, Canon_bad (l := []) (Nat.le_refl _) (row2_enc []) (by simp) rfl (.inr rfl), sc, Total_cv (l := []) (Nat.le_refl _) (ac 8) (by simp) rfl, CheckAny_cv (l := []) (Nat.le_refl _) a0 (by simp) rfl, RefCheckSpans_cv (l := []) (Nat.le_refl _) a0 (by simp) rfl,
      RefCanon_ans (l := []) (Nat.le_refl _) a0 (by simp) (fun s hs => by cases hs) (res := []) pick_nil, RefTotal_cv (l := []) (Nat.le_refl _) a0 (by simp) (fun s hs => by cases hs), CheckSpan_cv (s := (a, b)) (Nat.le_refl _) rfl, RefCheckSpan_cv (s := (a, b)) (Nat.le_refl _) rfl,
      boo_eq (by simp), sc, CheckSpans_cv (l := []) (Nat.le_refl _) (ac 9) (by simp) rfl, listed_nil (Nat.le_refl _), number_good' (Nat.le_refl _), rfl⟩

theorem law_long (w : World) (ha : CvOK (En 7) w 11 [] [] (boo true)) (a b : Int) {c : List V} {e : TypeId} {sp : Bool} {o : Nat} {cap : Option Nat} {l : List Sp} (R : Row2 c o l) (hs : shortB l = false) : ∃ h1, FnOK (En 7) w 3 [.agg [int a, int b], .sl 6 o l.length 2 cap] (hA c e sp) (boo true) h1 :=
  FnOK.of_sfunv mixedP noGo Tryz.func3 [(13, .cv (boo true)), (17, .cv (boo false)), (20, .cv (boo true))]
    [CvOK (En 7) w 11 [] [] (boo true), CvOK (En 7) w 12 [.sl 6 o l.length 2 cap, int 12] [(6, .cells c e sp)] (boo false), CvOK (En 7) w 11 [] [] (boo true)] (by kernel_rfl)
    ⟨ha, ShortSpans_cv (by omega) (fun h hh => .sl R hh.1) hs, ha⟩
noncomputable abbrev hW (c : List V) (e : TypeId) (sp : Bool) (a b : Int) (d : List V) (sp2 : Bool) (d2 : List V) : Hp := ⟨10, mkH [(6, .cells c e sp), (7, .cells [int a, int b] 23 false), (8, .cells d 23 sp2), (9, .cells d2 23 true)]⟩
noncomputable abbrev hW0 (c : List V) (e : TypeId) (sp : Bool) (a b : Int) (d : List V) (sp2 : Bool) : Hp := ⟨9, mkH [(6, .cells c e sp), (7, .cells [int a, int b] 23 false), (8, .cells d 23 sp2)]⟩
theorem hW_new (c : List V) (e : TypeId) (sp : Bool) (a b : Int) (d : List V) (sp2 : Bool) (d2 : List V) : (hW0 c e sp a b d sp2).new (.cells d2 23 true) = hW c e sp a b d sp2 d2 := by kernel_rfl
theorem hW_at (c : List V) (e : TypeId) (sp : Bool) (a b : Int) (d : List V) (sp2 : Bool) : (hW0 c e sp a b d sp2).at_ 8 = some (.cells d 23 sp2) := by kernel_rfl
/-- The first list is wrong. -/
theorem law_bad (w : World) (ha : CvOK (En 7) w 11 [] [] (boo true)) (a b : Int) {c : List V} {e : TypeId} {sp : Bool} {o : Nat} {cap : Option Nat} {l : List Sp} (R : Row2 c o l) (hl : l.length ≤ 1000000) (hs : shortB l = true) {y z : Int} (hy : anyE l = y) (hz : checkE l = z) (y0 : y ≠ 0) (z0 : z ≠ 0) :
    ∃ h1, FnOK (En 7) w 3 [.agg [int a, int b], .sl 6 o l.length 2 cap] (hA c e sp) (boo true) h1 := by
  have a0 : ∀ (h : Hp), HasAll h [(6, .cells c e sp)] → Arg2 h (.sl 6 o l.length 2 cap) [(6, .cells c e sp)] l := fun h hh => .sl R hh.1
  have ac : ∀ (i : Nat) (h : Hp), HasAll h [(i, .cells (encS l) 23 (cpSp l))] → Arg2 h (.sl i 0 l.length 2 (cpCap l)) [(i, .cells (encS l) 23 (cpSp l))] l := fun i h hh => .sl (row2_enc l) hh.1
  have sc : CnOK (En 7) w 14 [.sl 6 o l.length 2 cap] [(6, .cells c e sp)] l.length 2 (cpCap l) (encS l) 23 (cpSp l) := spans_cn (by omega) a0 hl
  have tot := Total_cv (w0 := w) (r := 7) (by omega) (ac 9) hl hz
  rw [if_neg z0] at tot
  exact FnOK.of_sfunv mixedP noGo Tryz.func3 [(13, .cv (boo true)), (17, .cv (boo true)), (23, .cn l.length 2 (cpCap l) (encS l) 23 (cpSp l)), (24, .cv (.tup [.sc (.slice none 0 0), int y])), (29, .cn l.length 2 (cpCap l) (encS l) 23 (cpSp l)), (30, .cv (.tup [int 0, int z])), (34, .cv (int y)), (36, .cv (int z)), (38, .eq (boo false)), (42, .eq (boo false)), (46, .cv (int (spanE (a, b)))), (48, .cv (int (spanE (a, b)))), (49, .eq (boo true)), (52, .cn l.length 2 (cpCap l) (encS l) 23 (cpSp l)), (53, .cv (int z)), (55, .eq (boo true)), (62, .cv (boo true)), (69, .cv (boo true))]
    [CvOK (En 7) w 11 [] [] (boo true), CvOK (En 7) w 12 [.sl 6 o l.length 2 cap, int 12] [(6, .cells c e sp)] (boo true), CnOK (En 7) w 14 [.sl 6 o l.length 2 cap] [(6, .cells c e sp)] l.length 2 (cpCap l) (encS l) 23 (cpSp l), CvOK (En 7) w 13 [.sl 8 0 l.length 2 (cpCap l)] [(8, .cells (encS l) 23 (cpSp l))] (.tup [.sc (.slice none 0 0), int y]),
      CnOK (En 7) w 14 [.sl 6 o l.length 2 cap] [(6, .cells c e sp)] l.length 2 (cpCap l) (encS l) 23 (cpSp l), CvOK (En 7) w 15 [.sl 9 0 l.length 2 (cpCap l)] [(9, .cells (encS l) 23 (cpSp l))] (.tup [int 0, int z]), CvOK (En 7) w 16 [.sl 6 o l.length 2 cap] [(6, .cells c e sp)] (int y), CvOK (En 7) w 17 [.sl 6 o l.length 2 cap] [(6, .cells c e sp)] (int z),
      boo (y == 0) = boo false, boo (z == 0) = boo false, CvOK (En 7) w 20 [.agg [int a, int b]] [] (int (spanE (a, b))), CvOK (En 7) w 21 [.agg [int a, int b]] [] (int (spanE (a, b))), boo (spanE (a, b) == spanE (a, b)) = boo true,
      CnOK (En 7) w 14 [.sl 6 o l.length 2 cap] [(6, .cells c e sp)] l.length 2 (cpCap l) (encS l) 23 (cpSp l), CvOK (En 7) w 22 [.sl 10 0 l.length 2 (cpCap l)] [(10, .cells (encS l) 23 (cpSp l))] (int z), boo (z == z) = boo true,
      CvOK (En 7) w 23 [.sc (.slice none 0 0), int y, int y, .sc (.slice none 0 0)] [] (boo true), CvOK (En 7) w 24 [int 0, int z, int z, int 0] [] (boo true), V.agg [int a, int b] = V.agg [int a, int b]] (by kernel_rfl)
    ⟨ha, ShortSpans_cv (by omega) a0 hs, sc, Canon_bad (by omega) (row2_enc l) hl hy (.inl y0), sc, tot, CheckAny_cv (by omega) a0 hl hy, RefCheckSpans_cv (by omega) a0 hl hz, boo_eq (by simp [y0]), boo_eq (by simp [z0]), CheckSpan_cv (s := (a, b)) (by omega) rfl, RefCheckSpan_cv (s := (a, b)) (by omega) rfl, boo_eq (by simp),
      sc, CheckSpans_cv (by omega) (ac 10) hl hz, boo_eq (by simp), listed_bad (by omega) y0, number_bad' (by omega) z0, rfl⟩
/-- No span. -/
theorem law_none (w : World) (ha : CvOK (En 7) w 11 [] [] (boo true)) (a b : Int) {c : List V} {e : TypeId} {sp : Bool} {o : Nat} {cap : Option Nat} (R : Row2 c o []) : ∃ h1, FnOK (En 7) w 3 [.agg [int a, int b], .sl 6 o 0 2 cap] (hA c e sp) (boo true) h1 := by
  have a0 : ∀ (h : Hp), HasAll h [(6, .cells c e sp)] → Arg2 h (.sl 6 o 0 2 cap) [(6, .cells c e sp)] [] := fun h hh => .sl (l := []) R hh.1
  have ac : ∀ (i : Nat) (h : Hp), HasAll h [(i, .cells [] 23 false)] → Arg2 h (.sl i 0 0 2 (some 0)) [(i, .cells [] 23 false)] [] := fun i h hh => .sl (l := []) (row2_enc []) hh.1
  have sc : CnOK (En 7) w 14 [.sl 6 o 0 2 cap] [(6, .cells c e sp)] 0 2 (some 0) [] 23 false := spans_cn (l := []) (by omega) a0 (by simp)
  exact FnOK.of_sfunv mixedP noGo Tryz.func3 [(13, .cv (boo true)), (17, .cv (boo true)), (23, .cn 0 2 (some 0) [] 23 false), (24, .cv (.tup [.sc (.slice none 0 0), int 0])), (29, .cn 0 2 (some 0) [] 23 false), (30, .cv (.tup [int 0, int 0])), (34, .cv (int 0)), (36, .cv (int 0)), (40, .cv (.sc (.slice none 0 0))), (44, .cv (int 0)), (46, .cv (int (spanE (a, b)))), (48, .cv (int (spanE (a, b)))), (49, .eq (boo true)), (52, .cn 0 2 (some 0) [] 23 false), (53, .cv (int 0)), (62, .cv (boo true)), (69, .cv (boo true))]
    [CvOK (En 7) w 11 [] [] (boo true), CvOK (En 7) w 12 [.sl 6 o 0 2 cap, int 12] [(6, .cells c e sp)] (boo true), CnOK (En 7) w 14 [.sl 6 o 0 2 cap] [(6, .cells c e sp)] 0 2 (some 0) [] 23 false, CvOK (En 7) w 13 [.sl 8 0 0 2 (some 0)] [(8, .cells [] 23 false)] (.tup [.sc (.slice none 0 0), int 0]),
      CnOK (En 7) w 14 [.sl 6 o 0 2 cap] [(6, .cells c e sp)] 0 2 (some 0) [] 23 false, CvOK (En 7) w 15 [.sl 9 0 0 2 (some 0)] [(9, .cells [] 23 false)] (.tup [int 0, int 0]), CvOK (En 7) w 16 [.sl 6 o 0 2 cap] [(6, .cells c e sp)] (int 0), CvOK (En 7) w 17 [.sl 6 o 0 2 cap] [(6, .cells c e sp)] (int 0),
      CvOK (En 7) w 18 [.sl 6 o 0 2 cap] [(6, .cells c e sp)] (.sc (.slice none 0 0)), CvOK (En 7) w 19 [.sl 6 o 0 2 cap] [(6, .cells c e sp)] (int 0), CvOK (En 7) w 20 [.agg [int a, int b]] [] (int (spanE (a, b))), CvOK (En 7) w 21 [.agg [int a, int b]] [] (int (spanE (a, b))),
      boo (spanE (a, b) == spanE (a, b)) = boo true, CnOK (En 7) w 14 [.sl 6 o 0 2 cap] [(6, .cells c e sp)] 0 2 (some 0) [] 23 false, CvOK (En 7) w 22 [.sl 10 0 0 2 (some 0)] [(10, .cells [] 23 false)] (int 0),
      CvOK (En 7) w 23 [.sc (.slice none 0 0), int 0, int 0, .sc (.slice none 0 0)] [] (boo true), CvOK (En 7) w 24 [int 0, int 0, int 0, int 0] [] (boo true), V.agg [int a, int b] = V.agg [int a, int b]] (by kernel_rfl)
    ⟨ha, ShortSpans_cv (l := []) (by omega) a0 rfl, sc, Canon_bad (l := []) (by omega) (row2_enc []) (by simp) rfl (.inr rfl), sc, Total_cv (l := []) (by omega) (ac 9) (by simp) rfl, CheckAny_cv (l := []) (by omega) a0 (by simp) rfl, RefCheckSpans_cv (l := []) (by omega) a0 (by simp) rfl,
      RefCanon_ans (l := []) (by omega) a0 (by simp) (fun s hs => by cases hs) (res := []) pick_nil, RefTotal_cv (l := []) (by omega) a0 (by simp) (fun s hs => by cases hs), CheckSpan_cv (s := (a, b)) (by omega) rfl, RefCheckSpan_cv (s := (a, b)) (by omega) rfl,
      boo_eq (by simp), sc, CheckSpans_cv (l := []) (by omega) (ac 10) (by simp) rfl, listed_nil (by omega), number_good' (by omega), rfl⟩

theorem RefCanon_cn {r : Nat} (hr : 6 ≤ r) {w0 : World} {v : V} {objs : List (Nat × O)} {l : List Sp} (hv : ∀ h, HasAll h objs → Arg2 h v objs l) (hl : l.length ≤ 1000000) (hval : ∀ s ∈ l, spanE s = 0) (hne : l ≠ []) : CnOK (En r) w0 18 [v] objs (canonL l).length 2 none (encS (canonL l)) 23 true := by
  have h := RefCanon_ans hr (w0 := w0) hv hl hval (pick_canon hval)
  have hn := canonL_ne hne
  cases hc : canonL l with
  | nil => rw [hc] at hn; exact absurd rfl hn
  | cons s t => rw [hc] at h; exact h
/-- The list is canonical. -/
theorem law_good (w : World) (ha : CvOK (En 7) w 11 [] [] (boo true)) (a b : Int) {c : List V} {e : TypeId} {sp : Bool} {o : Nat} {cap : Option Nat} {l : List Sp} (R : Row2 c o l) (hl : l.length ≤ 1024) (hs : shortB l = true) (hne : l ≠ []) (hy : anyL l = 0) (hz : checkE l = 0) :
    ∃ h1, FnOK (En 7) w 3 [.agg [int a, int b], .sl 6 o l.length 2 cap] (hA c e sp) (boo true) h1 := by
  have hl' : l.length ≤ 1000000 := by omega
  have hy' : anyE l = 0 := by unfold anyE; rw [if_neg (by omega)]; exact hy
  have a0 : ∀ (h : Hp), HasAll h [(6, .cells c e sp)] → Arg2 h (.sl 6 o l.length 2 cap) [(6, .cells c e sp)] l := fun h hh => .sl R hh.1
  have ac : ∀ (i : Nat) (h : Hp), HasAll h [(i, .cells (encS l) 23 (cpSp l))] → Arg2 h (.sl i 0 l.length 2 (cpCap l)) [(i, .cells (encS l) 23 (cpSp l))] l := fun i h hh => .sl (row2_enc l) hh.1
  have sc : CnOK (En 7) w 14 [.sl 6 o l.length 2 cap] [(6, .cells c e sp)] l.length 2 (cpCap l) (encS l) 23 (cpSp l) := spans_cn (by omega) a0 hl'
  have tot := Total_cv (w0 := w) (r := 7) (by omega) (ac 10) hl' hz
  rw [if_pos rfl] at tot
  have cg := Canon_good (r := 7) (by omega) (w0 := w) (row2_enc l) hl hne hy (hW_at c e sp a b (encS l) (cpSp l)) (cap := cpCap l)
  rw [hW_new] at cg
  exact FnOK.of_sfunv mixedP noGo Tryz.func3 [(13, .cv (boo true)), (17, .cv (boo true)), (23, .cn l.length 2 (cpCap l) (encS l) 23 (cpSp l)), (24, .call (.tup [.sl 9 0 (canonL l).length 2 none, int 0]) (hW c e sp a b (encS l) (cpSp l) (encS (canonL l)))), (29, .cn l.length 2 (cpCap l) (encS l) 23 (cpSp l)), (30, .cv (.tup [int (totS l), int 0])), (34, .cv (int 0)), (36, .cv (int 0)), (40, .cn (canonL l).length 2 none (encS (canonL l)) 23 true), (44, .cv (int (totS l))), (46, .cv (int (spanE (a, b)))), (48, .cv (int (spanE (a, b)))), (49, .eq (boo true)), (52, .cn l.length 2 (cpCap l) (encS l) 23 (cpSp l)), (53, .cv (int 0)), (62, .cv (boo true)), (69, .cv (boo true))]
    [CvOK (En 7) w 11 [] [] (boo true), CvOK (En 7) w 12 [.sl 6 o l.length 2 cap, int 12] [(6, .cells c e sp)] (boo true), CnOK (En 7) w 14 [.sl 6 o l.length 2 cap] [(6, .cells c e sp)] l.length 2 (cpCap l) (encS l) 23 (cpSp l),
      FnOK (En 7) w 13 [.sl 8 0 l.length 2 (cpCap l)] (hW0 c e sp a b (encS l) (cpSp l)) (.tup [.sl 9 0 (canonL l).length 2 none, int 0]) (hW c e sp a b (encS l) (cpSp l) (encS (canonL l))),
      CnOK (En 7) w 14 [.sl 6 o l.length 2 cap] [(6, .cells c e sp)] l.length 2 (cpCap l) (encS l) 23 (cpSp l), CvOK (En 7) w 15 [.sl 10 0 l.length 2 (cpCap l)] [(10, .cells (encS l) 23 (cpSp l))] (.tup [int (totS l), int 0]), CvOK (En 7) w 16 [.sl 6 o l.length 2 cap] [(6, .cells c e sp)] (int 0), CvOK (En 7) w 17 [.sl 6 o l.length 2 cap] [(6, .cells c e sp)] (int 0),
      CnOK (En 7) w 18 [.sl 6 o l.length 2 cap] [(6, .cells c e sp)] (canonL l).length 2 none (encS (canonL l)) 23 true, CvOK (En 7) w 19 [.sl 6 o l.length 2 cap] [(6, .cells c e sp)] (int (totS l)), CvOK (En 7) w 20 [.agg [int a, int b]] [] (int (spanE (a, b))), CvOK (En 7) w 21 [.agg [int a, int b]] [] (int (spanE (a, b))), boo (spanE (a, b) == spanE (a, b)) = boo true,
      CnOK (En 7) w 14 [.sl 6 o l.length 2 cap] [(6, .cells c e sp)] l.length 2 (cpCap l) (encS l) 23 (cpSp l), CvOK (En 7) w 22 [.sl 12 0 l.length 2 (cpCap l)] [(12, .cells (encS l) 23 (cpSp l))] (int 0),
      CvOK (En 7) w 23 [.sl 9 0 (canonL l).length 2 none, int 0, int 0, .sl 11 0 (canonL l).length 2 none] [(9, .cells (encS (canonL l)) 23 true), (11, .cells (encS (canonL l)) 23 true)] (boo true), CvOK (En 7) w 24 [int (totS l), int 0, int 0, int (totS l)] [] (boo true), V.agg [int a, int b] = V.agg [int a, int b]] (by kernel_rfl)
    ⟨ha, ShortSpans_cv (by omega) a0 hs, sc, cg, sc, tot, CheckAny_cv (by omega) a0 hl' hy', RefCheckSpans_cv (by omega) a0 hl' hz, RefCanon_cn (by omega) a0 hl' (anyL_valid hy) hne, RefTotal_cv (by omega) a0 hl' (anyL_valid hy), CheckSpan_cv (s := (a, b)) (by omega) rfl, RefCheckSpan_cv (s := (a, b)) (by omega) rfl, boo_eq (by simp),
      sc, CheckSpans_cv (by omega) (ac 12) hl' hz, listed_good (by omega) (by decide) (Nat.le_trans (canonL_len l) hl), number_good' (by omega), rfl⟩
/-- The list is of valid spans, and not canonical. -/
theorem law_half (w : World) (ha : CvOK (En 7) w 11 [] [] (boo true)) (a b : Int) {c : List V} {e : TypeId} {sp : Bool} {o : Nat} {cap : Option Nat} {l : List Sp} (R : Row2 c o l) (hl : l.length ≤ 1024) (hs : shortB l = true) (hne : l ≠ []) (hy : anyL l = 0) {z : Int} (hz : checkE l = z) (z0 : z ≠ 0) :
    ∃ h1, FnOK (En 7) w 3 [.agg [int a, int b], .sl 6 o l.length 2 cap] (hA c e sp) (boo true) h1 := by
  have hl' : l.length ≤ 1000000 := by omega
  have hy' : anyE l = 0 := by unfold anyE; rw [if_neg (by omega)]; exact hy
  have a0 : ∀ (h : Hp), HasAll h [(6, .cells c e sp)] → Arg2 h (.sl 6 o l.length 2 cap) [(6, .cells c e sp)] l := fun h hh => .sl R hh.1
  have ac : ∀ (i : Nat) (h : Hp), HasAll h [(i, .cells (encS l) 23 (cpSp l))] → Arg2 h (.sl i 0 l.length 2 (cpCap l)) [(i, .cells (encS l) 23 (cpSp l))] l := fun i h hh => .sl (row2_enc l) hh.1
  have sc : CnOK (En 7) w 14 [.sl 6 o l.length 2 cap] [(6, .cells c e sp)] l.length 2 (cpCap l) (encS l) 23 (cpSp l) := spans_cn (by omega) a0 hl'
  have tot := Total_cv (w0 := w) (r := 7) (by omega) (ac 10) hl' hz
  rw [if_neg z0] at tot
  have cg := Canon_good (r := 7) (by omega) (w0 := w) (row2_enc l) hl hne hy (hW_at c e sp a b (encS l) (cpSp l)) (cap := cpCap l)
  rw [hW_new] at cg
  exact FnOK.of_sfunv mixedP noGo Tryz.func3 [(13, .cv (boo true)), (17, .cv (boo true)), (23, .cn l.length 2 (cpCap l) (encS l) 23 (cpSp l)), (24, .call (.tup [.sl 9 0 (canonL l).length 2 none, int 0]) (hW c e sp a b (encS l) (cpSp l) (encS (canonL l)))), (29, .cn l.length 2 (cpCap l) (encS l) 23 (cpSp l)), (30, .cv (.tup [int 0, int z])), (34, .cv (int 0)), (36, .cv (int z)), (40, .cn (canonL l).length 2 none (encS (canonL l)) 23 true), (42, .eq (boo false)), (46, .cv (int (spanE (a, b)))), (48, .cv (int (spanE (a, b)))), (49, .eq (boo true)), (52, .cn l.length 2 (cpCap l) (encS l) 23 (cpSp l)), (53, .cv (int z)), (55, .eq (boo true)), (62, .cv (boo true)), (69, .cv (boo true))]
    [CvOK (En 7) w 11 [] [] (boo true), CvOK (En 7) w 12 [.sl 6 o l.length 2 cap, int 12] [(6, .cells c e sp)] (boo true), CnOK (En 7) w 14 [.sl 6 o l.length 2 cap] [(6, .cells c e sp)] l.length 2 (cpCap l) (encS l) 23 (cpSp l),
      FnOK (En 7) w 13 [.sl 8 0 l.length 2 (cpCap l)] (hW0 c e sp a b (encS l) (cpSp l)) (.tup [.sl 9 0 (canonL l).length 2 none, int 0]) (hW c e sp a b (encS l) (cpSp l) (encS (canonL l))),
      CnOK (En 7) w 14 [.sl 6 o l.length 2 cap] [(6, .cells c e sp)] l.length 2 (cpCap l) (encS l) 23 (cpSp l), CvOK (En 7) w 15 [.sl 10 0 l.length 2 (cpCap l)] [(10, .cells (encS l) 23 (cpSp l))] (.tup [int 0, int z]), CvOK (En 7) w 16 [.sl 6 o l.length 2 cap] [(6, .cells c e sp)] (int 0), CvOK (En 7) w 17 [.sl 6 o l.length 2 cap] [(6, .cells c e sp)] (int z),
      CnOK (En 7) w 18 [.sl 6 o l.length 2 cap] [(6, .cells c e sp)] (canonL l).length 2 none (encS (canonL l)) 23 true, boo (z == 0) = boo false, CvOK (En 7) w 20 [.agg [int a, int b]] [] (int (spanE (a, b))), CvOK (En 7) w 21 [.agg [int a, int b]] [] (int (spanE (a, b))), boo (spanE (a, b) == spanE (a, b)) = boo true,
      CnOK (En 7) w 14 [.sl 6 o l.length 2 cap] [(6, .cells c e sp)] l.length 2 (cpCap l) (encS l) 23 (cpSp l), CvOK (En 7) w 22 [.sl 12 0 l.length 2 (cpCap l)] [(12, .cells (encS l) 23 (cpSp l))] (int z), boo (z == z) = boo true,
      CvOK (En 7) w 23 [.sl 9 0 (canonL l).length 2 none, int 0, int 0, .sl 11 0 (canonL l).length 2 none] [(9, .cells (encS (canonL l)) 23 true), (11, .cells (encS (canonL l)) 23 true)] (boo true), CvOK (En 7) w 24 [int 0, int z, int z, int 0] [] (boo true), V.agg [int a, int b] = V.agg [int a, int b]] (by kernel_rfl)
    ⟨ha, ShortSpans_cv (by omega) a0 hs, sc, cg, sc, tot, CheckAny_cv (by omega) a0 hl' hy', RefCheckSpans_cv (by omega) a0 hl' hz, RefCanon_cn (by omega) a0 hl' (anyL_valid hy) hne, boo_eq (by simp [z0]), CheckSpan_cv (s := (a, b)) (by omega) rfl, RefCheckSpan_cv (s := (a, b)) (by omega) rfl, boo_eq (by simp),
      sc, CheckSpans_cv (by omega) (ac 12) hl' hz, boo_eq (by simp), listed_good (by omega) (by decide) (Nat.le_trans (canonL_len l) hl), number_bad' (by omega) z0, rfl⟩
/-- The law, at a slice over a block. -/
theorem law_sl (w : World) (ha : CvOK (En 7) w 11 [] [] (boo true)) (a b : Int) {c : List V} {e : TypeId} {sp : Bool} {o : Nat} {cap : Option Nat} {l : List Sp} (R : Row2 c o l) : ∃ h1, FnOK (En 7) w 3 [.agg [int a, int b], .sl 6 o l.length 2 cap] (hA c e sp) (boo true) h1 := by
  cases hs : shortB l with
  | false => exact law_long w ha a b R hs
  | true =>
    have hlen : l.length ≤ 12 ∨ l.length = 1025 := by
      unfold shortB at hs
      simpa using hs
    by_cases hne : l = []
    · subst hne
      exact law_none w ha a b R
    · by_cases hm : 1024 < l.length
      · have h1 : anyE l = 5 := by unfold anyE; rw [if_pos hm]
        have h2 : checkE l = 5 := by unfold checkE; rw [if_pos hm]
        exact law_bad w ha a b R (by omega) hs h1 h2 (by decide) (by decide)
      · have h1 : anyE l = anyL l := by unfold anyE; rw [if_neg hm]
        have h2 : checkE l = spansE (-1) l := by unfold checkE; rw [if_neg hm]
        rcases anyL_cases l with h | h
        · by_cases hz : checkE l = 0
          · exact law_good w ha a b R (by omega) hs hne h hz
          · exact law_half w ha a b R (by omega) hs hne h rfl hz
        · refine law_bad w ha a b R (by omega) hs (h1.trans h) rfl (by decide) fun hz => ?_
          have := anyL_of_valid (spansE_valid (h2.symm.trans hz))
          rw [h] at this
          cases this
end Go.Proofs.YtmlfcaaecofnjaaGreatDoor
