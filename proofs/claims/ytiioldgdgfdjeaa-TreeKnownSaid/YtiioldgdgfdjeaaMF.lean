/-
  Tree: Children, Depth, Path. Conditions: none.
  Tree: common nodes (plain). Conditions: none.
  Tree: common, Common; the references path, node, Children, Path, Depth, common, Common. Conditions: none.
  Tree: Find, Clade and their references; same. Conditions: none.
-/
import Derived.Test.YtiioldgdgfdjeaaME

section
set_option linter.unusedVariables false
set_option linter.unusedSimpArgs false
set_option maxHeartbeats 4000000
set_option maxRecDepth 10000
namespace Go.Cp
open Go Go.Proofs Go.Vx

theorem getD_of {α : Type} (z : α) (l : List α) (k : Nat) (h : k < l.length) : l.getD k z = l[k] := by simp [List.getD, h]
theorem upES_len (t : List Node) (v : Nat) : (upES t v).length = (ups t v).length := by rw [upES, List.length_map]
theorem upES_at {t : List Node} {v k : Nat} {e : List AV} (h : (upES t v)[k]? = some e) : k < (ups t v).length ∧ e = [nv ((ups t v).getD k 0)] := by
  have h1 : k < (ups t v).length := by
    have := (List.getElem?_eq_some_iff.1 h).1
    rwa [upES_len] at this
  refine ⟨h1, ?_⟩
  rw [upES, List.getElem?_map, List.getElem?_eq_getElem h1] at h
  rw [getD_of 0 _ k h1]
  simpa using h.symm
theorem upES_one {t : List Node} {v : Nat} : ∀ e ∈ upES t v, e.length = 1 := fun e he => by
  obtain ⟨x, _, rfl⟩ := List.mem_map.1 he
  try rfl
theorem chk_one {t : List Node} {v : Int} (h : chkE t [v] = 0) : okTree t = true ∧ ∃ u : Nat, v = (u : Int) ∧ u < t.length := by
  obtain ⟨h1, h2⟩ := chkE_zero h
  simp only [List.all_cons, List.all_nil, Bool.and_true, inB, Bool.and_eq_true, decide_eq_true_eq] at h2
  exact ⟨h1, v.toNat, by omega, by omega⟩
theorem chk_eq (t : List Node) (v : Int) : (chkE t [v] != 0) = !decide (chkE t [v] = 0) := by rw [bne, int_beq]

def depthV (t : List Node) (v : Int) : Int := if chkE t [v] = 0 then ((ups t v.toNat).length : Int) - 1 else 0
theorem Depth_ok (t : List Node) (v : Int) (hs : Small t) : Ok Try.prog E 17 [.c (nodes t), zv v] (.tp [zv (depthV t v), zv (chkE t [v])]) := by
  refine ok_of_vc (L := []) (ts := [4, 5]) envOK mixed Try.func17 rfl (by kernel_rfl) rfl (by kernel_rfl) rfl fun hl => ?_
  simp only [Try.f17, nums, rowsS, nodes, zv, nv, bv, sv, VZ, BEq.rfl, seval, -Int.reduceNatCast', kAgg, scD, List.all_cons, List.all_nil]
  refine CallX.mk (chk_ok t [v] hs (by simp)) rfl ?_
  by_cases hc : chkE t [v] = 0
  · obtain ⟨ht, u, rfl, hu⟩ := chk_one hc
    have hU := ups_ok ht hu
    have h63 := (okTree_len ht).2
    have hll := hU.len
    have hd : depthV t (u : Int) = ((ups t u).length : Int) - 1 := by rw [depthV, if_pos hc]; rfl
    simp only [hc, hd, nums, rowsS, nodes, zv, nv, bv, sv, VZ, BEq.rfl, seval, -Int.reduceNatCast', kAgg, scD, List.all_cons, List.all_nil]
    refine CallX.mut (CallMVC.mk [] [(2001, 5001), (2002, 5002)] (up_ok t u) ?_ ?_)
    · simp only [nums, rowsS, nodes, zv, nv, bv, sv, VZ, BEq.rfl, seval, -Int.reduceNatCast', kAgg, scD, List.all_cons, List.all_nil]
    simp only [nums, rowsS, nodes, zv, nv, bv, sv, VZ, BEq.rfl, seval, -Int.reduceNatCast', kAgg, scD, List.all_cons, List.all_nil]
    refine RangeVC.mk (Y := Nat) [(2001, 5001), (2002, 5002)] [] [] (up_seq t u ht hu) (fun k y => y = k ∧ k ≤ (ups t u).length) (fun k => ⟨[(7, .bp 7 0)], [(7, .cells [zv ((k : Int) - 1)])]⟩) rfl ?_ upES_one ⟨0, ?_, rfl, by omega⟩ ?_ ?_
    · simp only [nums, rowsS, nodes, zv, nv, bv, sv, VZ, BEq.rfl, seval, -Int.reduceNatCast', kAgg, scD, List.all_cons, List.all_nil]
    · simp only [nums, rowsS, nodes, zv, nv, bv, sv, VZ, BEq.rfl, seval, -Int.reduceNatCast', kAgg, scD, List.all_cons, List.all_nil]
      try rfl
    · rintro k e y he ⟨rfl, hk⟩
      obtain ⟨h1, rfl⟩ := upES_at he
      have w1 : IntKind.i64.wrap ((y : Int) - 1 + 1) = ((y + 1 : Nat) : Int) - 1 := by rw [wrap_in (by omega) (by omega)]; omega
      simp only [w1, nums, rowsS, nodes, zv, nv, bv, sv, VZ, BEq.rfl, seval, -Int.reduceNatCast', kAgg, scD, List.all_cons, List.all_nil]
      refine ⟨y + 1, Enter.mk [] [] [] ?_, rfl, by omega⟩
      simp only [nums, rowsS, nodes, zv, nv, bv, sv, VZ, BEq.rfl, seval, -Int.reduceNatCast', kAgg, scD, List.all_cons, List.all_nil]
    · rintro y ⟨rfl, hk⟩
      rw [upES_len]
      simp only [nums, rowsS, nodes, zv, nv, bv, sv, VZ, BEq.rfl, seval, -Int.reduceNatCast', kAgg, scD, List.all_cons, List.all_nil]
  · have h1 : (chkE t [v] != 0) = true := by rw [chk_eq, decide_eq_false hc]; rfl
    simp only [h1, depthV, if_neg hc, nums, rowsS, nodes, zv, nv, bv, sv, VZ, BEq.rfl, seval, -Int.reduceNatCast', kAgg, scD, List.all_cons, List.all_nil]

def childV (t : List Node) (v : Int) : List Int := if chkE t [v] = 0 then kids t v else []
theorem Children_ok (t : List Node) (v : Int) (hs : Small t) : Ok Try.prog E 21 [.c (nodes t), zv v] (.tp [.c (nums (childV t v)), zv (chkE t [v])]) := by
  refine ok_of_vc (L := []) (ts := [4, 5]) envOK mixed Try.func21 rfl (by kernel_rfl) rfl (by kernel_rfl) rfl fun hl => ?_
  simp only [Try.f21, nums, rowsS, nodes, zv, nv, bv, sv, VZ, BEq.rfl, seval, -Int.reduceNatCast', kAgg, scD, List.all_cons, List.all_nil]
  refine CallX.mk (chk_ok t [v] hs (by simp)) rfl ?_
  by_cases hc : chkE t [v] = 0
  · obtain ⟨ht, u, rfl, hu⟩ := chk_one hc
    have hd : childV t (u : Int) = kids t u := by rw [childV, if_pos hc]
    simp only [hc, hd, nums, rowsS, nodes, zv, nv, bv, sv, VZ, BEq.rfl, seval, -Int.reduceNatCast', kAgg, scD, List.all_cons, List.all_nil]
    refine CallX.mk (families_ok t ht) rfl ?_
    have hkl : (kidsAll t).length = t.length := by simp [kidsAll, kidsAt]
    have hka : (kidsAll t).getD u [] = kids t u := by simp [kidsAll, kidsAt, List.getD, hu]
    simp only [getD_rowS (kidsAll t) u (by omega), hka, rowS_def, hkl, nums, rowsS, nodes, zv, nv, bv, sv, VZ, BEq.rfl, seval, -Int.reduceNatCast', kAgg, scD, List.all_cons, List.all_nil]
    exact ⟨Int.natCast_nonneg u, hu⟩
  · have h1 : (chkE t [v] != 0) = true := by rw [chk_eq, decide_eq_false hc]; rfl
    simp only [h1, childV, if_neg hc, nums, rowsS, nodes, zv, nv, bv, sv, VZ, BEq.rfl, seval, -Int.reduceNatCast', kAgg, scD, List.all_cons, List.all_nil]

/-! Path -/
abbrev upBx (t : List Node) (v : Nat) : List (Nat × Box) := [(2001, .cells [nv v]), (2002, .cells [.c (nodes t)])]
def upsI (t : List Node) (v : Nat) : List Int := (ups t v).map fun (x : Nat) => (x : Int)
theorem upsI_len (t : List Node) (v : Nat) : (upsI t v).length = (ups t v).length := by rw [upsI, List.length_map]
theorem upsI_at {t : List Node} {v k : Nat} : (upsI t v).getD k 0 = (((ups t v).getD k 0 : Nat) : Int) := by
  by_cases h : k < (ups t v).length
  · simp [upsI, List.getD, h]
  · simp [upsI, List.getD, List.getElem?_eq_none (by omega : (ups t v).length ≤ k)]
def colSt (xs : List Int) : Nat → S
  | 0 => ⟨[(2, .bp 2 0)], [(2, .cells [.c (.sc (.slice none 0 0))])]⟩
  | k + 1 => ⟨[(2, .bp 2 0)], [(2, .cells [.osl 1000 0]), (1000, .arr 3 0 ((xs.take (k + 1)).map num))]⟩
theorem take_num {xs : List Int} {k : Nat} (h : k < xs.length) : (xs.take (k + 1)).map num = (xs.take k).map num ++ [num (xs.getD k 0)] := by
  rw [List.take_add_one, List.getElem?_eq_getElem h, getD_of 0 _ k h, List.map_append]; rfl
theorem appendSeq_ok (t : List Node) (v : Nat) (ht : okTree t = true) (hv : v < t.length) : OkH Try.prog E 83 [.c (.sc (.slice none 0 0)), .fn 79 [.bp 2001 0, .bp 2002 0]] (upBx t v) (.osl 1 0) [(1, .arr 3 0 ((upsI t v).map num))] := by
  refine okH_of_vc (L := []) (ts := [4]) envOK mixed Try.func83 rfl (by kernel_rfl) rfl (by decide) (by kernel_rfl) rfl fun hl hlb => ?_
  have hU := ups_ok ht hv
  have h63 := (okTree_len ht).2
  have hll := hU.len
  have hpos := hU.pos
  have hil := upsI_len t v
  have hia := fun k => upsI_at (t := t) (v := v) (k := k)
  simp only [Try.f83, upBx, nums, rowsS, nodes, zv, nv, bv, sv, VZ, BEq.rfl, seval, -Int.reduceNatCast', kAgg, scD, List.all_cons, List.all_nil]
  refine RangeVC.mk (Y := Nat) [] [] [] (up_seq t v ht hv) (fun k y => y = k ∧ k ≤ (ups t v).length) (colSt (upsI t v)) rfl ?_ upES_one ⟨0, ?_, rfl, by omega⟩ ?_ ?_
  · simp only [nums, rowsS, nodes, zv, nv, bv, sv, VZ, BEq.rfl, seval, -Int.reduceNatCast', kAgg, scD, List.all_cons, List.all_nil]
  · simp only [colSt, nums, rowsS, nodes, zv, nv, bv, sv, VZ, BEq.rfl, seval, -Int.reduceNatCast', kAgg, scD, List.all_cons, List.all_nil]
  · rintro k e y he ⟨rfl, hk⟩
    obtain ⟨h1, rfl⟩ := upES_at he
    have hps := take_num (xs := upsI t v) (k := y) (by omega)
    rw [hia] at hps
    obtain ⟨s, hs2⟩ : ∃ s, (ups t v).getD y 0 = s := ⟨_, rfl⟩
    rw [hs2] at hps
    have hal := allLen_num [(s : Int)]
    have htl : (((upsI t v).take y).map num).length ≤ 63 := by rw [List.length_map, List.length_take]; omega
    cases y with
    | zero =>
      simp only [colSt, hs2, nums, rowsS, nodes, zv, nv, bv, sv, VZ, BEq.rfl, seval, -Int.reduceNatCast', kAgg, scD, List.all_cons, List.all_nil]
      refine ⟨hal, 1, Enter.mk [] [] [(1000, 11)] ?_, rfl, by omega⟩
      rw [List.take_zero, List.map_nil, List.nil_append] at hps
      simp only [colSt, hps, num_def, nums, rowsS, nodes, zv, nv, bv, sv, VZ, BEq.rfl, seval, -Int.reduceNatCast', kAgg, scD, List.all_cons, List.all_nil]
    | succ y =>
      simp only [colSt, hs2, nums, rowsS, nodes, zv, nv, bv, sv, VZ, BEq.rfl, seval, -Int.reduceNatCast', kAgg, scD, List.all_cons, List.all_nil]
      rw [List.length_map] at htl
      refine ⟨⟨by omega, hal⟩, y + 2, Enter.mk [] [] [] ?_, rfl, by omega⟩
      simp only [colSt, hps, num_def, nums, rowsS, nodes, zv, nv, bv, sv, VZ, BEq.rfl, seval, -Int.reduceNatCast', kAgg, scD, List.all_cons, List.all_nil]
  · rintro y ⟨rfl, hk⟩
    rw [upES_len]
    obtain ⟨m, hm⟩ : ∃ m, (ups t v).length = m + 1 := ⟨(ups t v).length - 1, by omega⟩
    have e1 : (upsI t v).take (m + 1) = upsI t v := List.take_of_length_le (by omega)
    rw [hm]
    simp only [colSt, e1, nums, rowsS, nodes, zv, nv, bv, sv, VZ, BEq.rfl, seval, -Int.reduceNatCast', kAgg, scD, List.all_cons, List.all_nil]
    refine Enter.mk [] [] [(1, 1000)] ?_
    simp only [nums, rowsS, nodes, zv, nv, bv, sv, VZ, BEq.rfl, seval, -Int.reduceNatCast', kAgg, scD, List.all_cons, List.all_nil]
theorem collect_ok (t : List Node) (v : Nat) (ht : okTree t = true) (hv : v < t.length) : OkH Try.prog E 67 [.fn 79 [.bp 2001 0, .bp 2002 0]] (upBx t v) (.osl 1 0) [(1, .arr 3 0 ((upsI t v).map num))] := by
  refine okH_of_vc (L := []) (ts := [2]) envOK mixed Try.func67 rfl (by kernel_rfl) rfl (by decide) (by kernel_rfl) rfl fun hl hlb => ?_
  have h83 := appendSeq_ok t v ht hv
  simp only [Try.f67, upBx, nums, rowsS, nodes, zv, nv, bv, sv, VZ, BEq.rfl, seval, -Int.reduceNatCast', kAgg, scD, List.all_cons, List.all_nil]
  refine CallMVC.hand [] [] h83 ?_ ?_
  · simp only [upBx, nums, rowsS, nodes, zv, nv, bv, sv, VZ, BEq.rfl, seval, -Int.reduceNatCast', kAgg, scD, List.all_cons, List.all_nil]
  simp only [nums, rowsS, nodes, zv, nv, bv, sv, VZ, BEq.rfl, seval, -Int.reduceNatCast', kAgg, scD, List.all_cons, List.all_nil]
  refine Enter.mk [] [] [] ?_
  simp only [nums, rowsS, nodes, zv, nv, bv, sv, VZ, BEq.rfl, seval, -Int.reduceNatCast', kAgg, scD, List.all_cons, List.all_nil]

/-- the first i and the last i have changed places -/
def revTo (xs : List Int) (i : Nat) : List Int := (List.range xs.length).map fun k => if k < i ∨ xs.length ≤ k + i then xs.getD (xs.length - 1 - k) 0 else xs.getD k 0
theorem revTo_len (xs : List Int) (i : Nat) : (revTo xs i).length = xs.length := by simp [revTo]
theorem revTo_at {xs : List Int} {i k : Nat} (h : k < xs.length) : (revTo xs i).getD k 0 = if k < i ∨ xs.length ≤ k + i then xs.getD (xs.length - 1 - k) 0 else xs.getD k 0 := by simp [revTo, List.getD, h]
theorem revTo_zero (xs : List Int) : revTo xs 0 = xs := by
  refine List.ext_getElem (by simp [revTo]) fun k h1 h2 => ?_
  have := revTo_at (i := 0) h2
  rw [if_neg (by omega), getD_of 0 _ k h1, getD_of 0 _ k h2] at this
  exact this
theorem revTo_step {xs : List Int} {i : Nat} (h : i < xs.length - 1 - i) : ((revTo xs i).set i (xs.getD (xs.length - 1 - i) 0)).set (xs.length - 1 - i) (xs.getD i 0) = revTo xs (i + 1) := by
  refine List.ext_getElem (by simp [revTo]) fun k h1 h2 => ?_
  have hk : k < xs.length := by simpa [revTo] using h2
  rw [← getD_of 0 _ k h2, revTo_at hk, List.getElem_set]
  by_cases e : xs.length - 1 - i = k
  · rw [if_pos e, if_pos (by omega)]
    congr 1; omega
  · rw [if_neg e, List.getElem_set]
    by_cases e2 : i = k
    · rw [if_pos e2, if_pos (by omega), e2]
    · have hk2 : k < (revTo xs i).length := by rw [revTo_len]; exact hk
      rw [if_neg e2, ← getD_of 0 _ k hk2, revTo_at hk]
      by_cases hc : k < i ∨ xs.length ≤ k + i
      · rw [if_pos hc, if_pos (by omega)]
      · rw [if_neg hc, if_neg (by omega)]
theorem revTo_all {xs : List Int} {i : Nat} (h : xs.length ≤ i + i + 1) : revTo xs i = xs.reverse := by
  refine List.ext_getElem (by simp [revTo]) fun k h1 h2 => ?_
  have hk : k < xs.length := by simpa [revTo] using h1
  rw [← getD_of 0 _ k h1, revTo_at hk, List.getElem_reverse]
  by_cases hc : k < i ∨ xs.length ≤ k + i
  · rw [if_pos hc, getD_of 0 _ _ (by omega)]
  · rw [if_neg hc, getD_of 0 _ k hk]
    congr 1; omega
theorem set_num (w : List Int) (j : Nat) (x : Int) : (w.map num).set j [.sc (.int .i64 x)] = (w.set j x).map num := by rw [List.map_set]; rfl
theorem row_one (w : List Int) (k : Nat) (h : k < w.length) : ((w.map num).getD k []).length = 1 := by rw [getD_num w k h]; rfl
theorem drop1_num (xs : List Int) (k : Nat) : List.drop 1 ((xs.map num).getD k []) = [] := by
  by_cases h : k < xs.length
  · rw [getD_num xs k h]; rfl
  · rw [List.getD, List.getElem?_eq_none (by simp; omega)]; rfl
theorem reverse_ok (xs : List Int) (hx : xs.length ≤ 1000) : OkM Try.prog E 68 [.osl 2001 0] [(2001, .arr 3 0 (xs.map num))] (.tp []) [(2001, .arr 3 0 (xs.reverse.map num))] := by
  refine okM_of_vc (L := []) (ts := []) envOK mixed Try.func68 rfl (by kernel_rfl) rfl (by decide) (by kernel_rfl) rfl fun hl hlb => ?_
  have w0 : IntKind.i64.wrap ((xs.length : Int) - 1) = (xs.length : Int) - 1 := wrap_in (by omega) (by omega)
  simp only [Try.f68, w0, nums, rowsS, nodes, zv, nv, bv, sv, VZ, BEq.rfl, seval, -Int.reduceNatCast', kAgg, scD, List.all_cons, List.all_nil]
  refine LoopVC.mk (Y := Nat) (fun i => i ≤ xs.length) (fun i => ⟨[(0, .osl 2001 0), (2, nv i), (3, zv ((xs.length : Int) - 1 - (i : Int)))], [(2001, .arr 3 0 ((revTo xs i).map num))]⟩) (fun i => xs.length - i) ⟨0, Enter.mk [] [] [] ?_, by omega⟩ ?_
  · have e1 : (xs.length : Int) - 1 - ((0 : Nat) : Int) = (xs.length : Int) - 1 := by omega
    simp only [revTo_zero, e1, nums, rowsS, nodes, zv, nv, bv, sv, VZ, BEq.rfl, seval, -Int.reduceNatCast', kAgg, scD, List.all_cons, List.all_nil]
    try rfl
  intro i hi
  simp only [nums, rowsS, nodes, zv, nv, bv, sv, VZ, BEq.rfl, seval, -Int.reduceNatCast', kAgg, scD, List.all_cons, List.all_nil]
  refine guardB.mk (fun h => ?_) (fun h => ?_)
  · have hj : (i : Int) < (xs.length : Int) - 1 - (i : Int) := by simpa using h
    clear h
    obtain ⟨j, hje⟩ : ∃ j : Nat, xs.length = j + 1 + i := ⟨xs.length - 1 - i, by omega⟩
    have hji : (xs.length : Int) - 1 - (i : Int) = (j : Int) := by omega
    have hij : i < j := by omega
    have hst := revTo_step (xs := xs) (i := i) (by omega)
    rw [show xs.length - 1 - i = j by omega] at hst
    have hai := revTo_at (xs := xs) (i := i) (k := i) (by omega)
    rw [if_neg (by omega)] at hai
    have haj := revTo_at (xs := xs) (i := i) (k := j) (by omega)
    rw [if_neg (by omega)] at haj
    have hln := revTo_len xs i
    have w1 : IntKind.i64.wrap ((j : Int) - 1) = (xs.length : Int) - 1 - ((i + 1 : Nat) : Int) := by rw [wrap_in (by omega) (by omega)]; omega
    obtain ⟨R, hR⟩ : ∃ R, revTo xs i = R := ⟨_, rfl⟩
    rw [hR] at hst hai haj hln
    have hr2 : (R.set i (xs.getD j 0)).length = xs.length := by rw [List.length_set, hln]
    have o1 := row_one R i (by omega)
    have o2 := row_one R j (by omega)
    have o3 := row_one (R.set i (xs.getD j 0)) j (by omega)
    simp only [hR, hji, getD_num R i (by omega), getD_num R j (by omega), hai, haj, num_def, set_num, drop1_num, o1, o2, o3, hst, hln, hr2, w1, wrap_nat (k := i) (by omega), nums, rowsS, nodes, zv, nv, bv, sv, VZ, BEq.rfl, seval, -Int.reduceNatCast', kAgg, scD, List.all_cons, List.all_nil]
    refine ⟨Int.natCast_nonneg j, by omega, by omega, Int.natCast_nonneg i, by omega, by omega, Int.natCast_nonneg i, by omega, by omega, Int.natCast_nonneg j, by omega, by omega, i + 1, Enter.mk [] [] [] ?_, by omega, by show xs.length - (i + 1) < xs.length - i; omega⟩
    simp only [nums, rowsS, nodes, zv, nv, bv, sv, VZ, BEq.rfl, seval, -Int.reduceNatCast', kAgg, scD, List.all_cons, List.all_nil]
  · have hj : ¬ (i : Int) < (xs.length : Int) - 1 - (i : Int) := by simpa using h
    have hall := revTo_all (xs := xs) (i := i) (by omega)
    simp only [hall, nums, rowsS, nodes, zv, nv, bv, sv, VZ, BEq.rfl, seval, -Int.reduceNatCast', kAgg, scD, List.all_cons, List.all_nil]
    refine Enter.mk [] [] [] ?_
    simp only [nums, rowsS, nodes, zv, nv, bv, sv, VZ, BEq.rfl, seval, -Int.reduceNatCast', kAgg, scD, List.all_cons, List.all_nil]

def pathV (t : List Node) (v : Int) : List Int := if chkE t [v] = 0 then (upsI t v.toNat).reverse else []
theorem Path_ok (t : List Node) (v : Int) (hs : Small t) : Ok Try.prog E 34 [.c (nodes t), zv v] (.tp [.c (nums (pathV t v)), zv (chkE t [v])]) := by
  refine ok_of_vc (L := []) (ts := [4, 5]) envOK mixed Try.func34 rfl (by kernel_rfl) rfl (by kernel_rfl) rfl fun hl => ?_
  simp only [Try.f34, nums, rowsS, nodes, zv, nv, bv, sv, VZ, BEq.rfl, seval, -Int.reduceNatCast', kAgg, scD, List.all_cons, List.all_nil]
  refine CallX.mk (chk_ok t [v] hs (by simp)) rfl ?_
  by_cases hc : chkE t [v] = 0
  · obtain ⟨ht, u, rfl, hu⟩ := chk_one hc
    have hU := ups_ok ht hu
    have h63 := (okTree_len ht).2
    have hll := hU.len
    have hil := upsI_len t u
    have hd : pathV t (u : Int) = (upsI t u).reverse := by rw [pathV, if_pos hc]; rfl
    simp only [hc, hd, nums, rowsS, nodes, zv, nv, bv, sv, VZ, BEq.rfl, seval, -Int.reduceNatCast', kAgg, scD, List.all_cons, List.all_nil]
    refine CallX.mut (CallMVC.mk [] [(2001, 5001), (2002, 5002)] (up_ok t u) ?_ ?_)
    · simp only [nums, rowsS, nodes, zv, nv, bv, sv, VZ, BEq.rfl, seval, -Int.reduceNatCast', kAgg, scD, List.all_cons, List.all_nil]
    simp only [nums, rowsS, nodes, zv, nv, bv, sv, VZ, BEq.rfl, seval, -Int.reduceNatCast', kAgg, scD, List.all_cons, List.all_nil]
    refine CallMVC.hand [] [(2001, 5001), (2002, 5002)] (collect_ok t u ht hu) ?_ ?_
    · simp only [upBx, nums, rowsS, nodes, zv, nv, bv, sv, VZ, BEq.rfl, seval, -Int.reduceNatCast', kAgg, scD, List.all_cons, List.all_nil]
    simp only [nums, rowsS, nodes, zv, nv, bv, sv, VZ, BEq.rfl, seval, -Int.reduceNatCast', kAgg, scD, List.all_cons, List.all_nil]
    refine CallX.mut (CallMVC.mk [] [(2001, 1)] (reverse_ok (upsI t u) (by omega)) ?_ ?_)
    · simp only [nums, rowsS, nodes, zv, nv, bv, sv, VZ, BEq.rfl, seval, -Int.reduceNatCast', kAgg, scD, List.all_cons, List.all_nil]
    simp only [nums, rowsS, nodes, zv, nv, bv, sv, VZ, BEq.rfl, seval, -Int.reduceNatCast', kAgg, scD, List.all_cons, List.all_nil]
    try rfl
  · have h1 : (chkE t [v] != 0) = true := by rw [chk_eq, decide_eq_false hc]; rfl
    simp only [h1, pathV, if_neg hc, nums, rowsS, nodes, zv, nv, bv, sv, VZ, BEq.rfl, seval, -Int.reduceNatCast', kAgg, scD, List.all_cons, List.all_nil]

end Go.Cp
end

section
set_option linter.unusedVariables false
set_option linter.unusedSimpArgs false
set_option maxHeartbeats 4000000
set_option maxRecDepth 10000
namespace Go.Cp
open Go Go.Proofs Go.Vx

section
variable {t : List Node}
theorem ups_le (h : okTree t = true) : ∀ n v, v ≤ n → v < t.length → ∀ c ∈ ups t v, c ≤ v
  | n, v, h1, h2, c, hc => by
    rw [ups_eq h h2] at hc
    rcases List.mem_cons.1 hc with rfl | hc
    · exact Nat.le_refl _
    · split at hc
      · cases hc
      · rename_i h0
        have hp := (okTree_parN h h2 (by omega)).1
        cases n with
        | zero => omega
        | succ n =>
          have := ups_le h n (parN t v) (by omega) (by omega) c hc
          omega
theorem ups_le' (h : okTree t = true) {v : Nat} (hv : v < t.length) {c : Nat} (hc : c ∈ ups t v) : c ≤ v := ups_le h v v (Nat.le_refl _) hv c hc
theorem ups_self (h : okTree t = true) {v : Nat} (hv : v < t.length) : v ∈ ups t v := by
  rw [ups_eq h hv]; exact List.mem_cons_self ..
/-- what is above a node that is above v -/
theorem ups_suffix (h : okTree t = true) : ∀ n v, v ≤ n → v < t.length → ∀ c ∈ ups t v, ∃ pre, ups t v = pre ++ ups t c ∧ ∀ d ∈ pre, c < d
  | n, v, h1, h2, c, hc => by
    have he := ups_eq h h2
    rw [he] at hc
    rcases List.mem_cons.1 hc with rfl | hc
    · exact ⟨[], rfl, by simp⟩
    · split at hc
      · cases hc
      · rename_i h0
        have hp := (okTree_parN h h2 (by omega)).1
        cases n with
        | zero => omega
        | succ n =>
          obtain ⟨pre, e, hl⟩ := ups_suffix h n (parN t v) (by omega) (by omega) c hc
          have hle := ups_le h n (parN t v) (by omega) (by omega) c hc
          refine ⟨v :: pre, by rw [he, if_neg h0, e]; rfl, fun d hd => ?_⟩
          rcases List.mem_cons.1 hd with rfl | hd
          · omega
          · exact hl d hd
theorem ups_suffix' (h : okTree t = true) {v : Nat} (hv : v < t.length) {c : Nat} (hc : c ∈ ups t v) : ∃ pre, ups t v = pre ++ ups t c ∧ ∀ d ∈ pre, c < d := ups_suffix h v v (Nat.le_refl _) hv c hc
theorem ups_trans (h : okTree t = true) {v : Nat} (hv : v < t.length) {c d : Nat} (hc : c ∈ ups t v) (hd : d ∈ ups t c) : d ∈ ups t v := by
  obtain ⟨pre, e, _⟩ := ups_suffix' h hv hc
  rw [e]; exact List.mem_append_right _ hd

/-- the deepest common node -/
def comT (t : List Node) : Nat → Nat → Nat → Nat
  | 0, a, _ => a
  | n + 1, a, b => if a = b then a else if b < a then comT t n (parN t a) b else comT t n a (parN t b)
def com (t : List Node) (a b : Nat) : Nat := comT t (a + b) a b
theorem comT_fuel (h : okTree t = true) : ∀ m a b k, a + b ≤ m → a + b ≤ k → a < t.length → b < t.length → comT t k a b = com t a b
  | m, a, b, 0, _, h2, _, _ => by
    have ha : a = 0 := by omega
    have hb : b = 0 := by omega
    subst ha; subst hb; rfl
  | m, a, b, k + 1, h1, h2, h3, h4 => by
    rw [comT]
    by_cases e : a = b
    · subst e
      rw [if_pos rfl, com]
      cases a with
      | zero => rfl
      | succ a =>
        rw [show a + 1 + (a + 1) = a + 1 + a + 1 by omega, comT, if_pos rfl]
    · obtain ⟨s, hs⟩ : ∃ s, a + b = s + 1 := ⟨a + b - 1, by omega⟩
      rw [if_neg e, com, hs, comT, if_neg e]
      cases m with
      | zero => omega
      | succ m =>
        by_cases hlt : b < a
        · have hp := (okTree_parN h h3 (by omega)).1
          rw [if_pos hlt, if_pos hlt, comT_fuel h m (parN t a) b k (by omega) (by omega) (by omega) h4, comT_fuel h m (parN t a) b s (by omega) (by omega) (by omega) h4]
        · have hp := (okTree_parN h h4 (by omega)).1
          rw [if_neg hlt, if_neg hlt, comT_fuel h m a (parN t b) k (by omega) (by omega) h3 (by omega), comT_fuel h m a (parN t b) s (by omega) (by omega) h3 (by omega)]
theorem com_same (t : List Node) (a : Nat) : com t a a = a := by
  rw [com]
  cases a with
  | zero => rfl
  | succ a => rw [show a + 1 + (a + 1) = a + 1 + a + 1 by omega, comT, if_pos rfl]
theorem com_left (h : okTree t = true) {a b : Nat} (ha : a < t.length) (hb : b < t.length) (hlt : b < a) : com t a b = com t (parN t a) b := by
  have hp := (okTree_parN h ha (by omega)).1
  obtain ⟨s, hs⟩ : ∃ s, a + b = s + 1 := ⟨a + b - 1, by omega⟩
  rw [com, hs, comT, if_neg (by omega), if_pos hlt, comT_fuel h s (parN t a) b s (by omega) (by omega) (by omega) hb]
theorem com_right (h : okTree t = true) {a b : Nat} (ha : a < t.length) (hb : b < t.length) (hlt : a < b) : com t a b = com t a (parN t b) := by
  have hp := (okTree_parN h hb (by omega)).1
  obtain ⟨s, hs⟩ : ∃ s, a + b = s + 1 := ⟨a + b - 1, by omega⟩
  rw [com, hs, comT, if_neg (by omega), if_neg (by omega), comT_fuel h s a (parN t b) s (by omega) (by omega) ha (by omega)]
structure ComSpec (t : List Node) (a b c : Nat) : Prop where
  lt : c < t.length
  split : ∃ pa pb, ups t a = pa ++ ups t c ∧ ups t b = pb ++ ups t c ∧ ∀ d ∈ pa, d ∉ pb
theorem com_specN (h : okTree t = true) : ∀ m a b, a + b ≤ m → a < t.length → b < t.length → ComSpec t a b (com t a b)
  | m, a, b, h1, h2, h3 => by
    rcases Nat.lt_trichotomy a b with hlt | rfl | hlt
    · have hp := (okTree_parN h h3 (by omega)).1
      rw [com_right h h2 h3 hlt]
      cases m with
      | zero => omega
      | succ m =>
        obtain ⟨g1, pa, pb, g2, g3, g4⟩ := com_specN h m a (parN t b) (by omega) h2 (by omega)
        refine ⟨g1, pa, b :: pb, g2, by rw [ups_eq h h3, if_neg (by omega), g3]; rfl, fun d hd => ?_⟩
        have hd' : d ∈ ups t a := by rw [g2]; exact List.mem_append_left _ hd
        have := ups_le' h h2 hd'
        rw [List.mem_cons, not_or]
        exact ⟨by omega, g4 d hd⟩
    · rw [com_same]
      exact ⟨h2, [], [], rfl, rfl, by simp⟩
    · have hp := (okTree_parN h h2 (by omega)).1
      rw [com_left h h2 h3 hlt]
      cases m with
      | zero => omega
      | succ m =>
        obtain ⟨g1, pa, pb, g2, g3, g4⟩ := com_specN h m (parN t a) b (by omega) (by omega) h3
        refine ⟨g1, a :: pa, pb, by rw [ups_eq h h2, if_neg (by omega), g2]; rfl, g3, fun d hd => ?_⟩
        rcases List.mem_cons.1 hd with rfl | hd
        · intro hb
          have hd' : d ∈ ups t b := by rw [g3]; exact List.mem_append_left _ hb
          have := ups_le' h h3 hd'
          omega
        · exact g4 d hd
theorem com_spec (h : okTree t = true) {a b : Nat} (ha : a < t.length) (hb : b < t.length) : ComSpec t a b (com t a b) := com_specN h _ a b (Nat.le_refl _) ha hb
theorem com_mem (h : okTree t = true) {a b : Nat} (ha : a < t.length) (hb : b < t.length) : com t a b ∈ ups t a ∧ com t a b ∈ ups t b := by
  obtain ⟨g1, pa, pb, g2, g3, _⟩ := com_spec h ha hb
  rw [g2, g3]
  exact ⟨List.mem_append_right _ (ups_self h g1), List.mem_append_right _ (ups_self h g1)⟩
/-- a common node is above the deepest one -/
theorem com_max (h : okTree t = true) {a b c : Nat} (ha : a < t.length) (hb : b < t.length) (h1 : c ∈ ups t a) (h2 : c ∈ ups t b) : c ∈ ups t (com t a b) := by
  obtain ⟨g1, pa, pb, g2, g3, g4⟩ := com_spec h ha hb
  rw [g2] at h1
  rw [g3] at h2
  rcases List.mem_append.1 h1 with h1 | h1
  · rcases List.mem_append.1 h2 with h2 | h2
    · exact (g4 c h1 h2).elim
    · exact h2
  · exact h1
theorem com_eq (h : okTree t = true) {a b : Nat} (ha : a < t.length) (hb : b < t.length) : com t a b = b ↔ b ∈ ups t a := by
  constructor
  · intro e
    have := (com_mem h ha hb).1
    rwa [e] at this
  · intro hm
    have h1 := com_max h ha hb hm (ups_self h hb)
    have h2 := ups_le' h (com_spec h ha hb).lt h1
    have h3 := ups_le' h hb (com_mem h ha hb).2
    omega

/-- where the two ways from the root part -/
def rpath (t : List Node) (v : Nat) : List Nat := (ups t v).reverse
theorem rpath_len (t : List Node) (v : Nat) : (rpath t v).length = (ups t v).length := by rw [rpath, List.length_reverse]
theorem part_at (h : okTree t = true) {a b k : Nat} (ha : a < t.length) (hb : b < t.length) (hka : k ≤ (rpath t a).length) (hkb : k ≤ (rpath t b).length) (hpre : ∀ j, j < k → (rpath t a).getD j 0 = (rpath t b).getD j 0)
    (hend : ¬ (k < (rpath t a).length ∧ k < (rpath t b).length ∧ (rpath t a).getD k 0 = (rpath t b).getD k 0)) : 0 < k ∧ (rpath t a).getD (k - 1) 0 = com t a b := by
  obtain ⟨g1, pa, pb, g2, g3, g4⟩ := com_spec h ha hb
  have hU := ups_ok h g1
  obtain ⟨C, hC⟩ : ∃ C, ups t (com t a b) = C := ⟨_, rfl⟩
  rw [hC] at g2 g3 hU
  have hpos := hU.pos
  have e1 : rpath t a = C.reverse ++ pa.reverse := by rw [rpath, g2, List.reverse_append]
  have e2 : rpath t b = C.reverse ++ pb.reverse := by rw [rpath, g3, List.reverse_append]
  rw [e1] at hka hpre hend ⊢
  rw [e2] at hkb hpre hend
  simp only [List.length_append, List.length_reverse] at hka hkb hend
  have hlow : ∀ (X : List Nat) j, j < C.length → (C.reverse ++ X).getD j 0 = C.reverse.getD j 0 := fun X j hj => by
    rw [List.getD_eq_getElem?_getD, List.getElem?_append_left (by rw [List.length_reverse]; exact hj), ← List.getD_eq_getElem?_getD]
  have hhigh : ∀ (X : List Nat), 0 < X.length → (C.reverse ++ X.reverse).getD C.length 0 ∈ X := fun X hX => by
    rw [List.getD_eq_getElem?_getD, List.getElem?_append_right (by rw [List.length_reverse]; exact Nat.le_refl _), List.length_reverse, Nat.sub_self]
    have : 0 < X.reverse.length := by rw [List.length_reverse]; exact hX
    rw [List.getElem?_eq_getElem this]
    exact List.mem_reverse.1 (List.getElem_mem this)
  have hk : k = C.length := by
    rcases Nat.lt_trichotomy k C.length with hlt | he | hlt
    · exact (hend ⟨by omega, by omega, by rw [hlow _ k hlt, hlow _ k hlt]⟩).elim
    · exact he
    · have h1 := hhigh pa (by omega)
      have h2 := hhigh pb (by omega)
      have := hpre C.length hlt
      rw [this] at h1
      exact (g4 _ h1 h2).elim
  subst hk
  refine ⟨hpos, ?_⟩
  rw [hlow _ _ (by omega), List.getD_eq_getElem?_getD, List.getElem?_reverse (by omega), ← List.getD_eq_getElem?_getD]
  rw [show C.length - 1 - (C.length - 1) = 0 by omega]
  exact hU.head
end

end Go.Cp
end

section
set_option linter.unusedVariables false
set_option linter.unusedSimpArgs false
set_option maxHeartbeats 4000000
set_option maxRecDepth 10000
namespace Go.Cp
open Go Go.Proofs Go.Vx

theorem com_lt {t : List Node} (h : okTree t = true) {a b : Nat} (ha : a < t.length) (hb : b < t.length) : com t a b < t.length := (com_spec h ha hb).lt
theorem common_ok (t : List Node) (a b : Nat) (ht : okTree t = true) (ha : a < t.length) (hb : b < t.length) : Ok Try.prog E 62 [.c (nodes t), nv a, nv b] (nv (com t a b)) := by
  refine ok_of_vc (L := []) (ts := [6]) envOK mixed Try.func62 rfl (by kernel_rfl) rfl (by kernel_rfl) rfl fun hl => ?_
  have h63 := (okTree_len ht).2
  simp only [Try.f62, nums, rowsS, nodes, zv, nv, bv, sv, VZ, BEq.rfl, seval, -Int.reduceNatCast', kAgg, scD, List.all_cons, List.all_nil]
  obtain ⟨c, hc⟩ : ∃ c, com t a b = c := ⟨_, rfl⟩
  rw [hc]
  refine LoopVC.mk (Y := Nat × Nat) (fun y => y.1 < t.length ∧ y.2 < t.length ∧ com t y.1 y.2 = c) (fun y => ⟨[(0, .c (nodes t)), (1, nv y.1), (2, nv y.2)], []⟩) (fun y => y.1 + y.2) ⟨(a, b), Enter.id ?_, ha, hb, hc⟩ ?_
  · simp only [nums, rowsS, nodes, zv, nv, bv, sv, VZ, BEq.rfl, seval, -Int.reduceNatCast', kAgg, scD, List.all_cons, List.all_nil]
  rintro ⟨x, y⟩ ⟨hx, hy, hxy⟩
  have hx : x < t.length := hx
  have hy : y < t.length := hy
  have hxy : com t x y = c := hxy
  have e1 : ((x : Int) != (y : Int)) = !decide (x = y) := by
    rw [bne, int_beq]; congr 2; exact propext ⟨fun h => by omega, fun h => by omega⟩
  have e2 : decide ((y : Int) < (x : Int)) = decide (y < x) := lt_nat y x
  simp only [e1, e2, nums, rowsS, nodes, zv, nv, bv, sv, VZ, BEq.rfl, seval, -Int.reduceNatCast', kAgg, scD, List.all_cons, List.all_nil]
  refine guardB.mk (fun h => ?_) (fun h => ?_)
  · have hne : x ≠ y := by simpa using h
    clear h
    refine guardB.mk (fun h => ?_) (fun h => ?_) <;> simp only [h, nums, rowsS, nodes, zv, nv, bv, sv, VZ, BEq.rfl, seval, -Int.reduceNatCast', kAgg, scD, List.all_cons, List.all_nil]
    · have h : y < x := by simpa using h
      obtain ⟨hp, hpe⟩ := okTree_parN ht hx (by omega)
      have hpe : (t.getD x Node.zero).parent = (parN t x : Int) := hpe
      simp only [getD_node t x hx, node_def, hpe, nums, rowsS, nodes, zv, nv, bv, sv, VZ, BEq.rfl, seval, -Int.reduceNatCast', kAgg, scD, List.all_cons, List.all_nil]
      refine ⟨⟨Int.natCast_nonneg x, hx⟩, (parN t x, y), Enter.id ?_, ⟨by show parN t x < t.length; omega, hy, by show com t (parN t x) y = c; rw [← com_left ht hx hy h]; exact hxy⟩, by show parN t x + y < x + y; omega⟩
      simp only [nums, rowsS, nodes, zv, nv, bv, sv, VZ, BEq.rfl, seval, -Int.reduceNatCast', kAgg, scD, List.all_cons, List.all_nil]
    · have h : x < y := by
        have : ¬ y < x := by simpa using h
        omega
      obtain ⟨hp, hpe⟩ := okTree_parN ht hy (by omega)
      have hpe : (t.getD y Node.zero).parent = (parN t y : Int) := hpe
      simp only [getD_node t y hy, node_def, hpe, nums, rowsS, nodes, zv, nv, bv, sv, VZ, BEq.rfl, seval, -Int.reduceNatCast', kAgg, scD, List.all_cons, List.all_nil]
      refine ⟨⟨Int.natCast_nonneg y, hy⟩, (x, parN t y), Enter.id ?_, ⟨hx, by show parN t y < t.length; omega, by show com t x (parN t y) = c; rw [← com_right ht hx hy h]; exact hxy⟩, by show x + parN t y < x + y; omega⟩
      simp only [nums, rowsS, nodes, zv, nv, bv, sv, VZ, BEq.rfl, seval, -Int.reduceNatCast', kAgg, scD, List.all_cons, List.all_nil]
  · have h : x = y := by simpa using h
    subst h
    have hxy : com t x x = c := hxy
    rw [com_same] at hxy
    subst hxy
    simp only [nums, rowsS, nodes, zv, nv, bv, sv, VZ, BEq.rfl, seval, -Int.reduceNatCast', kAgg, scD, List.all_cons, List.all_nil]

theorem chk_two {t : List Node} {a b : Int} (h : chkE t [a, b] = 0) : okTree t = true ∧ ∃ u v : Nat, a = (u : Int) ∧ u < t.length ∧ b = (v : Int) ∧ v < t.length := by
  obtain ⟨h1, h2⟩ := chkE_zero h
  simp only [List.all_cons, List.all_nil, Bool.and_true, inB, Bool.and_eq_true, decide_eq_true_eq] at h2
  exact ⟨h1, a.toNat, b.toNat, by omega, by omega, by omega, by omega⟩
theorem chkL_eq (t : List Node) (vs : List Int) : (chkE t vs != 0) = !decide (chkE t vs = 0) := by rw [bne, int_beq]
def comV (t : List Node) (a b : Int) : Int := if chkE t [a, b] = 0 then com t a.toNat b.toNat else 0
theorem Common_ok (t : List Node) (a b : Int) (hs : Small t) : Ok Try.prog E 24 [.c (nodes t), zv a, zv b] (.tp [zv (comV t a b), zv (chkE t [a, b])]) := by
  refine ok_of_vc (L := []) (ts := [6, 7]) envOK mixed Try.func24 rfl (by kernel_rfl) rfl (by kernel_rfl) rfl fun hl => ?_
  simp only [Try.f24, nums, rowsS, nodes, zv, nv, bv, sv, VZ, BEq.rfl, seval, -Int.reduceNatCast', kAgg, scD, List.all_cons, List.all_nil]
  refine CallX.mk (chk_ok t [a, b] hs (by simp)) rfl ?_
  by_cases hc : chkE t [a, b] = 0
  · obtain ⟨ht, u, v, rfl, hu, rfl, hv⟩ := chk_two hc
    have hd : comV t (u : Int) (v : Int) = (com t u v : Int) := by rw [comV, if_pos hc]; rfl
    simp only [hc, hd, nums, rowsS, nodes, zv, nv, bv, sv, VZ, BEq.rfl, seval, -Int.reduceNatCast', kAgg, scD, List.all_cons, List.all_nil]
    refine CallX.mk (common_ok t u v ht hu hv) rfl ?_
    simp only [nums, rowsS, nodes, zv, nv, bv, sv, VZ, BEq.rfl, seval, -Int.reduceNatCast', kAgg, scD, List.all_cons, List.all_nil]
  · have h1 : (chkE t [a, b] != 0) = true := by rw [chkL_eq, decide_eq_false hc]; rfl
    simp only [h1, comV, if_neg hc, nums, rowsS, nodes, zv, nv, bv, sv, VZ, BEq.rfl, seval, -Int.reduceNatCast', kAgg, scD, List.all_cons, List.all_nil]

/-! the references -/
theorem upsI_eq {t : List Node} (h : okTree t = true) {v : Nat} (hv : v < t.length) : upsI t v = (v : Int) :: if v = 0 then [] else upsI t (parN t v) := by
  rw [upsI, ups_eq h hv]
  split <;> rfl
theorem rpath_ok (t : List Node) (ht : okTree t = true) : ∀ n v, v ≤ n → v < t.length → Ok Try.prog E 70 [.c (nodes t), nv v] (.fr 3 ((upsI t v).reverse.map num))
  | n, v, h1, hv => by
    have h63 := (okTree_len ht).2
    have hU := (ups_ok ht hv).len
    have hil := upsI_len t v
    have hue := upsI_eq ht hv
    refine ok_of_vc (L := []) (ts := [4]) envOK mixed Try.func70 rfl (by kernel_rfl) rfl (by kernel_rfl) rfl fun hl => ?_
    have e1 : ((v : Int) == 0) = decide (v = 0) := by rw [int_beq]; congr 1; exact propext ⟨fun h => by omega, fun h => by omega⟩
    simp only [Try.f70, e1, nums, rowsS, nodes, zv, nv, bv, sv, VZ, BEq.rfl, seval, -Int.reduceNatCast', kAgg, scD, List.all_cons, List.all_nil]
    refine guardB.mk (fun h => ?_) (fun h => ?_) <;> simp only [h, nums, rowsS, nodes, zv, nv, bv, sv, VZ, BEq.rfl, seval, -Int.reduceNatCast', kAgg, scD, List.all_cons, List.all_nil]
    · have h : v = 0 := by simpa using h
      subst h
      rw [if_pos rfl] at hue
      simp only [hue, List.reverse_cons, List.reverse_nil, num_def, nums, rowsS, nodes, zv, nv, bv, sv, VZ, BEq.rfl, seval, -Int.reduceNatCast', kAgg, scD, List.all_cons, List.all_nil]
      try rfl
    · have h : v ≠ 0 := by simpa using h
      rw [if_neg h] at hue
      cases n with
      | zero => omega
      | succ n =>
        obtain ⟨hp, hpe⟩ := okTree_parN ht hv (by omega)
        have hpe : (t.getD v Node.zero).parent = (parN t v : Int) := hpe
        have ih := rpath_ok t ht n (parN t v) (by omega) (by omega)
        have hlp := upsI_len t (parN t v)
        have hUp := (ups_ok ht (show parN t v < t.length by omega)).len
        have hln : ((upsI t (parN t v)).reverse.map num).length ≤ 63 := by simp; omega
        simp only [getD_node t v hv, node_def, hpe, nums, rowsS, nodes, zv, nv, bv, sv, VZ, BEq.rfl, seval, -Int.reduceNatCast', kAgg, scD, List.all_cons, List.all_nil]
        refine ⟨⟨Int.natCast_nonneg v, hv⟩, ?_⟩
        refine CallX.mk ih rfl ?_
        simp only [hue, List.reverse_cons, num_def, List.map_append, nums, rowsS, nodes, zv, nv, bv, sv, VZ, BEq.rfl, seval, -Int.reduceNatCast', kAgg, scD, List.all_cons, List.all_nil]
        exact ⟨by simp; omega, allLen_num [(v : Int)]⟩

theorem chk_sing {t : List Node} {v : Int} : chkE t [v] = if okTree t = true then (if inB t v = true then 0 else 3) else 16 := by
  rw [chkE]; simp only [List.all_cons, List.all_nil, Bool.and_true]
theorem rnode_ok (t : List Node) (v : Int) (hs : Small t) : Ok Try.prog E 69 [.c (nodes t), zv v] (zv (chkE t [v])) := by
  refine ok_of_vc (L := []) (ts := [4]) envOK mixed Try.func69 rfl (by kernel_rfl) rfl (by kernel_rfl) rfl fun hl => ?_
  simp only [Try.f69, nums, rowsS, nodes, zv, nv, bv, sv, VZ, BEq.rfl, seval, -Int.reduceNatCast', kAgg, scD, List.all_cons, List.all_nil]
  refine CallX.mk (rcheck_ok t hs) rfl ?_
  have hcs := chk_sing (t := t) (v := v)
  cases ht : okTree t with
  | false =>
    rw [ht, if_neg (by decide)] at hcs
    simp only [errOf_false, hcs, nums, rowsS, nodes, zv, nv, bv, sv, VZ, BEq.rfl, seval, -Int.reduceNatCast', kAgg, scD, List.all_cons, List.all_nil]
  | true =>
    rw [ht, if_pos rfl] at hcs
    simp only [errOf_true, nums, rowsS, nodes, zv, nv, bv, sv, VZ, BEq.rfl, seval, -Int.reduceNatCast', kAgg, scD, List.all_cons, List.all_nil]
    refine guardB.mk (fun h => ?_) (fun h => ?_) <;> simp only [h, nums, rowsS, nodes, zv, nv, bv, sv, VZ, BEq.rfl, seval, -Int.reduceNatCast', kAgg, scD, List.all_cons, List.all_nil]
    · have h : v < 0 := by simpa using h
      rw [inB, decide_eq_false (by omega), Bool.false_and, if_neg (by decide)] at hcs
      simp only [hcs, nums, rowsS, nodes, zv, nv, bv, sv, VZ, BEq.rfl, seval, -Int.reduceNatCast', kAgg, scD, List.all_cons, List.all_nil]
    · have h : ¬ v < 0 := by simpa using h
      refine guardB.mk (fun h2 => ?_) (fun h2 => ?_) <;> simp only [h2, nums, rowsS, nodes, zv, nv, bv, sv, VZ, BEq.rfl, seval, -Int.reduceNatCast', kAgg, scD, List.all_cons, List.all_nil]
      · have h2 : (t.length : Int) ≤ v := by simpa using h2
        rw [inB, decide_eq_false (show ¬ v < (t.length : Int) by omega), Bool.and_false, if_neg (by decide)] at hcs
        simp only [hcs, nums, rowsS, nodes, zv, nv, bv, sv, VZ, BEq.rfl, seval, -Int.reduceNatCast', kAgg, scD, List.all_cons, List.all_nil]
      · have h2 : ¬ (t.length : Int) ≤ v := by simpa using h2
        rw [inB, decide_eq_true (show v < (t.length : Int) by omega), decide_eq_true (show 0 ≤ v by omega), if_pos (by decide)] at hcs
        simp only [hcs, nums, rowsS, nodes, zv, nv, bv, sv, VZ, BEq.rfl, seval, -Int.reduceNatCast', kAgg, scD, List.all_cons, List.all_nil]

theorem rChildren_ok (t : List Node) (v : Int) (hs : Small t) : Ok Try.prog E 35 [.c (nodes t), zv v] (.tp [.c (nums (childV t v)), zv (chkE t [v])]) := by
  refine ok_of_vc (L := []) (ts := [4, 5]) envOK mixed Try.func35 rfl (by kernel_rfl) rfl (by kernel_rfl) rfl fun hl => ?_
  simp only [Try.f35, nums, rowsS, nodes, zv, nv, bv, sv, VZ, BEq.rfl, seval, -Int.reduceNatCast', kAgg, scD, List.all_cons, List.all_nil]
  refine CallX.mk (rnode_ok t v hs) rfl ?_
  by_cases hc : chkE t [v] = 0
  · obtain ⟨ht, u, rfl, hu⟩ := chk_one hc
    have hd : childV t (u : Int) = kids t u := by rw [childV, if_pos hc]
    simp only [hc, hd, nums, rowsS, nodes, zv, nv, bv, sv, VZ, BEq.rfl, seval, -Int.reduceNatCast', kAgg, scD, List.all_cons, List.all_nil]
    refine CallX.mk (Ok.val (children_ok t (u : Nat) (okTree_len ht).2)) rfl ?_
    simp only [nums, rowsS, nodes, zv, nv, bv, sv, VZ, BEq.rfl, seval, -Int.reduceNatCast', kAgg, scD, List.all_cons, List.all_nil]
  · have h1 : (chkE t [v] != 0) = true := by rw [chk_eq, decide_eq_false hc]; rfl
    simp only [h1, childV, if_neg hc, nums, rowsS, nodes, zv, nv, bv, sv, VZ, BEq.rfl, seval, -Int.reduceNatCast', kAgg, scD, List.all_cons, List.all_nil]
theorem rPath_ok (t : List Node) (v : Int) (hs : Small t) : Ok Try.prog E 37 [.c (nodes t), zv v] (.tp [.c (nums (pathV t v)), zv (chkE t [v])]) := by
  refine ok_of_vc (L := []) (ts := [4, 5]) envOK mixed Try.func37 rfl (by kernel_rfl) rfl (by kernel_rfl) rfl fun hl => ?_
  simp only [Try.f37, nums, rowsS, nodes, zv, nv, bv, sv, VZ, BEq.rfl, seval, -Int.reduceNatCast', kAgg, scD, List.all_cons, List.all_nil]
  refine CallX.mk (rnode_ok t v hs) rfl ?_
  by_cases hc : chkE t [v] = 0
  · obtain ⟨ht, u, rfl, hu⟩ := chk_one hc
    have hd : pathV t (u : Int) = (upsI t u).reverse := by rw [pathV, if_pos hc]; rfl
    simp only [hc, hd, nums, rowsS, nodes, zv, nv, bv, sv, VZ, BEq.rfl, seval, -Int.reduceNatCast', kAgg, scD, List.all_cons, List.all_nil]
    refine CallX.mk (Ok.val (rpath_ok t ht u u (Nat.le_refl _) hu)) rfl ?_
    simp only [nums, rowsS, nodes, zv, nv, bv, sv, VZ, BEq.rfl, seval, -Int.reduceNatCast', kAgg, scD, List.all_cons, List.all_nil]
  · have h1 : (chkE t [v] != 0) = true := by rw [chk_eq, decide_eq_false hc]; rfl
    simp only [h1, pathV, if_neg hc, nums, rowsS, nodes, zv, nv, bv, sv, VZ, BEq.rfl, seval, -Int.reduceNatCast', kAgg, scD, List.all_cons, List.all_nil]
theorem rDepth_ok (t : List Node) (v : Int) (hs : Small t) : Ok Try.prog E 38 [.c (nodes t), zv v] (.tp [zv (depthV t v), zv (chkE t [v])]) := by
  refine ok_of_vc (L := []) (ts := [4, 5]) envOK mixed Try.func38 rfl (by kernel_rfl) rfl (by kernel_rfl) rfl fun hl => ?_
  simp only [Try.f38, nums, rowsS, nodes, zv, nv, bv, sv, VZ, BEq.rfl, seval, -Int.reduceNatCast', kAgg, scD, List.all_cons, List.all_nil]
  refine CallX.mk (rnode_ok t v hs) rfl ?_
  by_cases hc : chkE t [v] = 0
  · obtain ⟨ht, u, rfl, hu⟩ := chk_one hc
    have hd : depthV t (u : Int) = ((ups t u).length : Int) - 1 := by rw [depthV, if_pos hc]; rfl
    have hU := (ups_ok ht hu).len
    have h63 := (okTree_len ht).2
    have hln : (upsI t u).reverse.length = (ups t u).length := by rw [List.length_reverse, upsI_len]
    have w1 : IntKind.i64.wrap (((ups t u).length : Int) - 1) = ((ups t u).length : Int) - 1 := wrap_in (by omega) (by omega)
    simp only [hc, hd, nums, rowsS, nodes, zv, nv, bv, sv, VZ, BEq.rfl, seval, -Int.reduceNatCast', kAgg, scD, List.all_cons, List.all_nil]
    refine CallX.mk (Ok.val (rpath_ok t ht u u (Nat.le_refl _) hu)) rfl ?_
    simp only [hln, w1, nums, rowsS, nodes, zv, nv, bv, sv, VZ, BEq.rfl, seval, -Int.reduceNatCast', kAgg, scD, List.all_cons, List.all_nil]
  · have h1 : (chkE t [v] != 0) = true := by rw [chk_eq, decide_eq_false hc]; rfl
    simp only [h1, depthV, if_neg hc, nums, rowsS, nodes, zv, nv, bv, sv, VZ, BEq.rfl, seval, -Int.reduceNatCast', kAgg, scD, List.all_cons, List.all_nil]

theorem rp_at (t : List Node) (v k : Nat) : (upsI t v).reverse.getD k 0 = (((rpath t v).getD k 0 : Nat) : Int) := by
  have e : (upsI t v).reverse = (rpath t v).map fun (x : Nat) => (x : Int) := by rw [upsI, rpath, List.map_reverse]
  rw [e]
  by_cases h : k < (rpath t v).length
  · simp [List.getD, h]
  · simp [List.getD, List.getElem?_eq_none (by omega : (rpath t v).length ≤ k)]
theorem rcommon_ok (t : List Node) (a b : Nat) (ht : okTree t = true) (ha : a < t.length) (hb : b < t.length) : Ok Try.prog E 66 [.c (nodes t), nv a, nv b] (nv (com t a b)) := by
  refine ok_of_vc (L := []) (ts := [6]) envOK mixed Try.func66 rfl (by kernel_rfl) rfl (by kernel_rfl) rfl fun hl => ?_
  have h63 := (okTree_len ht).2
  have hUa := (ups_ok ht ha).len
  have hUb := (ups_ok ht hb).len
  have hla : (upsI t a).reverse.length = (rpath t a).length := by rw [List.length_reverse, upsI_len, rpath_len]
  have hlb : (upsI t b).reverse.length = (rpath t b).length := by rw [List.length_reverse, upsI_len, rpath_len]
  have hra := rpath_len t a
  have hrb := rpath_len t b
  simp only [Try.f66, nums, rowsS, nodes, zv, nv, bv, sv, VZ, BEq.rfl, seval, -Int.reduceNatCast', kAgg, scD, List.all_cons, List.all_nil]
  refine CallX.mk (Ok.val (rpath_ok t ht a a (Nat.le_refl _) ha)) rfl ?_
  simp only [nums, rowsS, nodes, zv, nv, bv, sv, VZ, BEq.rfl, seval, -Int.reduceNatCast', kAgg, scD, List.all_cons, List.all_nil]
  refine CallX.mk (Ok.val (rpath_ok t ht b b (Nat.le_refl _) hb)) rfl ?_
  simp only [nums, rowsS, nodes, zv, nv, bv, sv, VZ, BEq.rfl, seval, -Int.reduceNatCast', kAgg, scD, List.all_cons, List.all_nil]
  have hata := fun k => rp_at t a k
  have hatb := fun k => rp_at t b k
  obtain ⟨x, hx⟩ : ∃ x, (upsI t a).reverse = x := ⟨_, rfl⟩
  obtain ⟨y, hy⟩ : ∃ y, (upsI t b).reverse = y := ⟨_, rfl⟩
  rw [hx] at hla hata
  rw [hy] at hlb hatb
  simp only [hx, hy]
  refine LoopVC.mk (Y := Nat) (fun k => k ≤ x.length ∧ k ≤ y.length ∧ ∀ j, j < k → (rpath t a).getD j 0 = (rpath t b).getD j 0) (fun k => ⟨[(7, .c (nums x)), (8, .c (nums y)), (9, nv k)], []⟩) (fun k => x.length - k) ⟨0, Enter.id ?_, by omega, by omega, fun j hj => by omega⟩ ?_
  · simp only [nums, rowsS, nodes, zv, nv, bv, sv, VZ, BEq.rfl, seval, -Int.reduceNatCast', kAgg, scD, List.all_cons, List.all_nil]
    try rfl
  rintro k ⟨hka, hkb, hpre⟩
  have hend := fun h => part_at ht ha hb (k := k) (by omega) (by omega) hpre h
  have hfin : ¬ (k < x.length ∧ k < y.length ∧ (rpath t a).getD k 0 = (rpath t b).getD k 0) → ∃ m : Nat, k = m + 1 ∧ m < x.length ∧ x.getD m 0 = (com t a b : Int) := fun h => by
    obtain ⟨g1, g2⟩ := hend (by rw [← hla, ← hlb]; exact h)
    refine ⟨k - 1, by omega, by omega, ?_⟩
    rw [hata, g2]
  simp only [lt_nat, nums, rowsS, nodes, zv, nv, bv, sv, VZ, BEq.rfl, seval, -Int.reduceNatCast', kAgg, scD, List.all_cons, List.all_nil]
  refine guardB.mk (fun h => ?_) (fun h => ?_) <;> simp only [h, nums, rowsS, nodes, zv, nv, bv, sv, VZ, BEq.rfl, seval, -Int.reduceNatCast', kAgg, scD, List.all_cons, List.all_nil]
  · have h1 : k < x.length := by simpa using h
    refine guardB.mk (fun h => ?_) (fun h => ?_) <;> simp only [h, nums, rowsS, nodes, zv, nv, bv, sv, VZ, BEq.rfl, seval, -Int.reduceNatCast', kAgg, scD, List.all_cons, List.all_nil]
    · have h2 : k < y.length := by simpa using h
      simp only [getD_num x k h1, getD_num y k h2, num_def, hata, hatb, int_beq, nums, rowsS, nodes, zv, nv, bv, sv, VZ, BEq.rfl, seval, -Int.reduceNatCast', kAgg, scD, List.all_cons, List.all_nil]
      refine ⟨⟨Int.natCast_nonneg k, h1⟩, ⟨Int.natCast_nonneg k, h2⟩, ?_⟩
      refine guardB.mk (fun h => ?_) (fun h => ?_) <;> simp only [h, nums, rowsS, nodes, zv, nv, bv, sv, VZ, BEq.rfl, seval, -Int.reduceNatCast', kAgg, scD, List.all_cons, List.all_nil]
      · have h3 : (rpath t a).getD k 0 = (rpath t b).getD k 0 := by
          have : (((rpath t a).getD k 0 : Nat) : Int) = (((rpath t b).getD k 0 : Nat) : Int) := by simpa using h
          omega
        simp only [wrap_nat (k := k) (by omega), nums, rowsS, nodes, zv, nv, bv, sv, VZ, BEq.rfl, seval, -Int.reduceNatCast', kAgg, scD, List.all_cons, List.all_nil]
        refine ⟨k + 1, Enter.id ?_, ⟨by omega, by omega, fun j hj => ?_⟩, by show x.length - (k + 1) < x.length - k; omega⟩
        · simp only [nums, rowsS, nodes, zv, nv, bv, sv, VZ, BEq.rfl, seval, -Int.reduceNatCast', kAgg, scD, List.all_cons, List.all_nil]
        · by_cases e : j = k
          · rw [e]; exact h3
          · exact hpre j (by omega)
      · have h3 : ¬ (rpath t a).getD k 0 = (rpath t b).getD k 0 := fun e => by
          have : ¬ (((rpath t a).getD k 0 : Nat) : Int) = (((rpath t b).getD k 0 : Nat) : Int) := by simpa using h
          exact this (by rw [e])
        obtain ⟨m, rfl, hm, hxm⟩ := hfin fun hh => h3 hh.2.2
        have w1 : IntKind.i64.wrap (((m + 1 : Nat) : Int) - 1) = (m : Int) := by rw [wrap_in (by omega) (by omega)]; omega
        simp only [w1, getD_num x m hm, hxm, num_def, nums, rowsS, nodes, zv, nv, bv, sv, VZ, BEq.rfl, seval, -Int.reduceNatCast', kAgg, scD, List.all_cons, List.all_nil]
        exact ⟨Int.natCast_nonneg m, hm⟩
    · have h2 : ¬ k < y.length := by simpa using h
      obtain ⟨m, rfl, hm, hxm⟩ := hfin fun hh => h2 hh.2.1
      have w1 : IntKind.i64.wrap (((m + 1 : Nat) : Int) - 1) = (m : Int) := by rw [wrap_in (by omega) (by omega)]; omega
      simp only [w1, getD_num x m hm, hxm, num_def, nums, rowsS, nodes, zv, nv, bv, sv, VZ, BEq.rfl, seval, -Int.reduceNatCast', kAgg, scD, List.all_cons, List.all_nil]
      exact ⟨Int.natCast_nonneg m, hm⟩
  · have h1 : ¬ k < x.length := by simpa using h
    obtain ⟨m, rfl, hm, hxm⟩ := hfin fun hh => h1 hh.1
    have w1 : IntKind.i64.wrap (((m + 1 : Nat) : Int) - 1) = (m : Int) := by rw [wrap_in (by omega) (by omega)]; omega
    simp only [w1, getD_num x m hm, hxm, num_def, nums, rowsS, nodes, zv, nv, bv, sv, VZ, BEq.rfl, seval, -Int.reduceNatCast', kAgg, scD, List.all_cons, List.all_nil]
    exact ⟨Int.natCast_nonneg m, hm⟩

theorem chk_pair (t : List Node) (a b : Int) : chkE t [a, b] = if chkE t [a] = 0 then chkE t [b] else chkE t [a] := by
  simp only [chkE, List.all_cons, List.all_nil, Bool.and_true]
  cases okTree t <;> cases inB t a <;> cases inB t b <;> rfl
theorem rCommon_ok (t : List Node) (a b : Int) (hs : Small t) : Ok Try.prog E 40 [.c (nodes t), zv a, zv b] (.tp [zv (comV t a b), zv (chkE t [a, b])]) := by
  refine ok_of_vc (L := []) (ts := [6, 7]) envOK mixed Try.func40 rfl (by kernel_rfl) rfl (by kernel_rfl) rfl fun hl => ?_
  simp only [Try.f40, nums, rowsS, nodes, zv, nv, bv, sv, VZ, BEq.rfl, seval, -Int.reduceNatCast', kAgg, scD, List.all_cons, List.all_nil]
  refine CallX.mk (rnode_ok t a hs) rfl ?_
  have hp := chk_pair t a b
  by_cases ha : chkE t [a] = 0
  · rw [if_pos ha] at hp
    simp only [ha, nums, rowsS, nodes, zv, nv, bv, sv, VZ, BEq.rfl, seval, -Int.reduceNatCast', kAgg, scD, List.all_cons, List.all_nil]
    refine CallX.mk (rnode_ok t b hs) rfl ?_
    by_cases hc : chkE t [a, b] = 0
    · obtain ⟨ht, u, v, rfl, hu, rfl, hv⟩ := chk_two hc
      have hd : comV t (u : Int) (v : Int) = (com t u v : Int) := by rw [comV, if_pos hc]; rfl
      rw [← hp]
      simp only [hc, hd, nums, rowsS, nodes, zv, nv, bv, sv, VZ, BEq.rfl, seval, -Int.reduceNatCast', kAgg, scD, List.all_cons, List.all_nil]
      refine CallX.mk (rcommon_ok t u v ht hu hv) rfl ?_
      simp only [nums, rowsS, nodes, zv, nv, bv, sv, VZ, BEq.rfl, seval, -Int.reduceNatCast', kAgg, scD, List.all_cons, List.all_nil]
    · have h1 : (chkE t [a, b] != 0) = true := by rw [chkL_eq, decide_eq_false hc]; rfl
      rw [← hp]
      simp only [h1, comV, if_neg hc, nums, rowsS, nodes, zv, nv, bv, sv, VZ, BEq.rfl, seval, -Int.reduceNatCast', kAgg, scD, List.all_cons, List.all_nil]
  · rw [if_neg ha] at hp
    have h0 : (chkE t [a] == 0) = false := by rw [int_beq, decide_eq_false ha]
    have h1 : (chkE t [a] != 0) = true := by rw [chkL_eq, decide_eq_false ha]; rfl
    have hc : ¬ chkE t [a, b] = 0 := by rw [hp]; exact ha
    simp only [h0, h1, comV, if_neg hc, if_neg ha, hp, nums, rowsS, nodes, zv, nv, bv, sv, VZ, BEq.rfl, seval, -Int.reduceNatCast', kAgg, scD, List.all_cons, List.all_nil]

end Go.Cp
end

section
set_option linter.unusedVariables false
set_option linter.unusedSimpArgs false
set_option maxHeartbeats 4000000
set_option maxRecDepth 10000
namespace Go.Cp
open Go Go.Proofs Go.Vx

/-! Find -/
def findN (t : List Node) (s : ByteArray) : Nat := t.findIdx fun c => decide (c.name = s)
def findI (t : List Node) (s : ByteArray) : Int := if findN t s < t.length then (findN t s : Int) else -1
theorem find_hit {t : List Node} {s : ByteArray} {k : Nat} (hk : k < t.length) (hpre : ∀ j, j < k → (t.getD j Node.zero).name ≠ s) (h : (t.getD k Node.zero).name = s) : findI t s = (k : Int) := by
  have : findN t s = k := by
    rw [findN, List.findIdx_eq hk]
    refine ⟨by rw [← getD_of Node.zero _ k hk, decide_eq_true h], fun j hj => ?_⟩
    rw [← getD_of Node.zero _ j (by omega), decide_eq_false (hpre j hj)]
  rw [findI, this, if_pos hk]
theorem find_none {t : List Node} {s : ByteArray} (hpre : ∀ j, j < t.length → (t.getD j Node.zero).name ≠ s) : findI t s = -1 := by
  have : findN t s = t.length := by
    rw [findN, List.findIdx_eq_length]
    intro c hc
    obtain ⟨j, hj, rfl⟩ := List.mem_iff_getElem.1 hc
    rw [← getD_of Node.zero _ j hj, decide_eq_false (hpre j hj)]
  rw [findI, this, if_neg (by omega)]
theorem findI_case (t : List Node) (s : ByteArray) : (∃ k : Nat, k < t.length ∧ findI t s = (k : Int)) ∨ findI t s = -1 := by
  unfold findI
  split
  · exact .inl ⟨_, by assumption, rfl⟩
  · exact .inr rfl

theorem find1_ok (c : Node) (s : ByteArray) : OkM Try.prog E 61 [.ag c.enc, .bp 2001 0] [(2001, .cells [sv s])] (bv (decide (c.name = s))) [(2001, .cells [sv s])] := by
  refine okM_of_vc (L := []) (ts := [3]) envOK mixed Try.func61 rfl (by kernel_rfl) rfl (by decide) (by kernel_rfl) rfl fun hl hlb => ?_
  simp only [Try.f61, node_def, nums, rowsS, nodes, zv, nv, bv, sv, VZ, BEq.rfl, seval, -Int.reduceNatCast', kAgg, scD, List.all_cons, List.all_nil]
  simp only [str_beq]
  refine Enter.mk [] [] [] ?_
  simp only [nums, rowsS, nodes, zv, nv, bv, sv, VZ, BEq.rfl, seval, -Int.reduceNatCast', kAgg, scD, List.all_cons, List.all_nil]
theorem indexF_ok (t : List Node) (s : ByteArray) (hn : t.length ≤ 63) : OkM Try.prog E 60 [.c (nodes t), .fn 61 [.bp 2001 0]] [(2001, .cells [sv s])] (zv (findI t s)) [(2001, .cells [sv s])] := by
  refine okM_of_vc (L := []) (ts := [4]) envOK mixed Try.func60 rfl (by kernel_rfl) rfl (by decide) (by kernel_rfl) rfl fun hl hlb => ?_
  simp only [Try.f60, nums, rowsS, nodes, zv, nv, bv, sv, VZ, BEq.rfl, seval, -Int.reduceNatCast', kAgg, scD, List.all_cons, List.all_nil]
  refine LoopVC.mk (Y := Nat) (fun k => k ≤ t.length ∧ ∀ j, j < k → (t.getD j Node.zero).name ≠ s) (fun k => ⟨[(0, .c (nodes t)), (1, .fn 61 [.bp 2001 0]), (7, nv t.length), (8, nv k)], [(2001, .cells [sv s])]⟩) (fun k => t.length - k) ⟨0, Enter.mk [] [] [] ?_, by omega, fun j hj => by omega⟩ ?_
  · simp only [nums, rowsS, nodes, zv, nv, bv, sv, VZ, BEq.rfl, seval, -Int.reduceNatCast', kAgg, scD, List.all_cons, List.all_nil]
    try rfl
  rintro k ⟨hk, hpre⟩
  simp only [lt_nat, nums, rowsS, nodes, zv, nv, bv, sv, VZ, BEq.rfl, seval, -Int.reduceNatCast', kAgg, scD, List.all_cons, List.all_nil]
  refine guardB.mk (fun h => ?_) (fun h => ?_)
  · have hk' : k < t.length := by simpa using h
    clear h
    simp only [getD_node t k hk', node_def, nums, rowsS, nodes, zv, nv, bv, sv, VZ, BEq.rfl, seval, -Int.reduceNatCast', kAgg, scD, List.all_cons, List.all_nil]
    refine ⟨⟨Int.natCast_nonneg k, hk'⟩, ?_⟩
    refine CallMVC.mk [] [(2001, 2001)] (find1_ok (t.getD k Node.zero) s) ?_ ?_
    · simp only [node_def, nums, rowsS, nodes, zv, nv, bv, sv, VZ, BEq.rfl, seval, -Int.reduceNatCast', kAgg, scD, List.all_cons, List.all_nil]
    simp only [nums, rowsS, nodes, zv, nv, bv, sv, VZ, BEq.rfl, seval, -Int.reduceNatCast', kAgg, scD, List.all_cons, List.all_nil]
    refine guardB.mk (fun h => ?_) (fun h => ?_) <;> simp only [h, nums, rowsS, nodes, zv, nv, bv, sv, VZ, BEq.rfl, seval, -Int.reduceNatCast', kAgg, scD, List.all_cons, List.all_nil]
    · have h : (t.getD k Node.zero).name = s := by simpa using h
      have := find_hit hk' hpre h
      simp only [this, nums, rowsS, nodes, zv, nv, bv, sv, VZ, BEq.rfl, seval, -Int.reduceNatCast', kAgg, scD, List.all_cons, List.all_nil]
      refine Enter.mk [] [] [] ?_
      simp only [nums, rowsS, nodes, zv, nv, bv, sv, VZ, BEq.rfl, seval, -Int.reduceNatCast', kAgg, scD, List.all_cons, List.all_nil]
    · have h : ¬ (t.getD k Node.zero).name = s := by simpa using h
      simp only [wrap_nat (k := k) (by omega), nums, rowsS, nodes, zv, nv, bv, sv, VZ, BEq.rfl, seval, -Int.reduceNatCast', kAgg, scD, List.all_cons, List.all_nil]
      refine ⟨k + 1, Enter.mk [] [] [] ?_, ⟨by omega, fun j hj => ?_⟩, by show t.length - (k + 1) < t.length - k; omega⟩
      · simp only [nums, rowsS, nodes, zv, nv, bv, sv, VZ, BEq.rfl, seval, -Int.reduceNatCast', kAgg, scD, List.all_cons, List.all_nil]
      · by_cases e : j = k
        · rw [e]; exact h
        · exact hpre j (by omega)
  · have hk' : k = t.length := by
      have : ¬ k < t.length := by simpa using h
      omega
    have := find_none fun j hj => hpre j (by omega)
    simp only [this, nums, rowsS, nodes, zv, nv, bv, sv, VZ, BEq.rfl, seval, -Int.reduceNatCast', kAgg, scD, List.all_cons, List.all_nil]
    refine Enter.mk [] [] [] ?_
    simp only [nums, rowsS, nodes, zv, nv, bv, sv, VZ, BEq.rfl, seval, -Int.reduceNatCast', kAgg, scD, List.all_cons, List.all_nil]
def findV (t : List Node) (s : ByteArray) : Int := if okTree t = true then (if findI t s < 0 then 0 else findI t s) else 0
def findE (t : List Node) (s : ByteArray) : Int := if okTree t = true then (if findI t s < 0 then 5 else 0) else 16
theorem Find_ok (t : List Node) (s : ByteArray) (hs : Small t) : Ok Try.prog E 23 [.c (nodes t), sv s] (.tp [zv (findV t s), zv (findE t s)]) := by
  refine ok_of_vc (L := []) (ts := [4, 5]) envOK mixed Try.func23 rfl (by kernel_rfl) rfl (by kernel_rfl) rfl fun hl => ?_
  simp only [Try.f23, nums, rowsS, nodes, zv, nv, bv, sv, VZ, BEq.rfl, seval, -Int.reduceNatCast', kAgg, scD, List.all_cons, List.all_nil]
  refine CallX.mk (check_ok t hs) rfl ?_
  cases ht : okTree t with
  | false => simp only [errOf_false, findV, findE, ht, if_neg (show ¬ false = true by decide), nums, rowsS, nodes, zv, nv, bv, sv, VZ, BEq.rfl, seval, -Int.reduceNatCast', kAgg, scD, List.all_cons, List.all_nil]
  | true =>
    have h63 := (okTree_len ht).2
    simp only [errOf_true, nums, rowsS, nodes, zv, nv, bv, sv, VZ, BEq.rfl, seval, -Int.reduceNatCast', kAgg, scD, List.all_cons, List.all_nil]
    refine CallMVC.mk [] [(2001, 3)] (indexF_ok t s h63) ?_ ?_
    · simp only [nums, rowsS, nodes, zv, nv, bv, sv, VZ, BEq.rfl, seval, -Int.reduceNatCast', kAgg, scD, List.all_cons, List.all_nil]
    simp only [nums, rowsS, nodes, zv, nv, bv, sv, VZ, BEq.rfl, seval, -Int.reduceNatCast', kAgg, scD, List.all_cons, List.all_nil]
    refine guardB.mk (fun h => ?_) (fun h => ?_) <;> simp only [h, nums, rowsS, nodes, zv, nv, bv, sv, VZ, BEq.rfl, seval, -Int.reduceNatCast', kAgg, scD, List.all_cons, List.all_nil]
    · have h : findI t s < 0 := by simpa using h
      simp only [findV, findE, ht, if_pos, if_pos h, nums, rowsS, nodes, zv, nv, bv, sv, VZ, BEq.rfl, seval, -Int.reduceNatCast', kAgg, scD, List.all_cons, List.all_nil]
    · have h : ¬ findI t s < 0 := by simpa using h
      simp only [findV, findE, ht, if_pos, if_neg h, nums, rowsS, nodes, zv, nv, bv, sv, VZ, BEq.rfl, seval, -Int.reduceNatCast', kAgg, scD, List.all_cons, List.all_nil]
theorem rFind_ok (t : List Node) (s : ByteArray) (hs : Small t) : Ok Try.prog E 42 [.c (nodes t), sv s] (.tp [zv (findV t s), zv (findE t s)]) := by
  refine ok_of_vc (L := []) (ts := [4, 5]) envOK mixed Try.func42 rfl (by kernel_rfl) rfl (by kernel_rfl) rfl fun hl => ?_
  simp only [Try.f42, nums, rowsS, nodes, zv, nv, bv, sv, VZ, BEq.rfl, seval, -Int.reduceNatCast', kAgg, scD, List.all_cons, List.all_nil]
  refine CallX.mk (rcheck_ok t hs) rfl ?_
  cases ht : okTree t with
  | false => simp only [errOf_false, findV, findE, ht, if_neg (show ¬ false = true by decide), nums, rowsS, nodes, zv, nv, bv, sv, VZ, BEq.rfl, seval, -Int.reduceNatCast', kAgg, scD, List.all_cons, List.all_nil]
  | true =>
    have h63 := (okTree_len ht).2
    have hV : findV t s = if findI t s < 0 then 0 else findI t s := by rw [findV, if_pos ht]
    have hE : findE t s = if findI t s < 0 then 5 else 0 := by rw [findE, if_pos ht]
    simp only [errOf_true, hV, hE, nums, rowsS, nodes, zv, nv, bv, sv, VZ, BEq.rfl, seval, -Int.reduceNatCast', kAgg, scD, List.all_cons, List.all_nil]
    refine LoopVC.mk (Y := Nat) (fun k => k ≤ t.length ∧ ∀ j, j < k → (t.getD j Node.zero).name ≠ s) (fun k => ⟨[(0, .c (nodes t)), (1, sv s), (7, nv k)], []⟩) (fun k => t.length - k) ⟨0, Enter.id ?_, by omega, fun j hj => by omega⟩ ?_
    · simp only [nums, rowsS, nodes, zv, nv, bv, sv, VZ, BEq.rfl, seval, -Int.reduceNatCast', kAgg, scD, List.all_cons, List.all_nil]
      try rfl
    rintro k ⟨hk, hpre⟩
    simp only [lt_nat, nums, rowsS, nodes, zv, nv, bv, sv, VZ, BEq.rfl, seval, -Int.reduceNatCast', kAgg, scD, List.all_cons, List.all_nil]
    refine guardB.mk (fun h => ?_) (fun h => ?_)
    · have hk' : k < t.length := by simpa using h
      clear h
      simp only [getD_node t k hk', node_def, str_beq, nums, rowsS, nodes, zv, nv, bv, sv, VZ, BEq.rfl, seval, -Int.reduceNatCast', kAgg, scD, List.all_cons, List.all_nil]
      refine ⟨⟨Int.natCast_nonneg k, hk'⟩, ?_⟩
      refine guardB.mk (fun h => ?_) (fun h => ?_) <;> simp only [h, nums, rowsS, nodes, zv, nv, bv, sv, VZ, BEq.rfl, seval, -Int.reduceNatCast', kAgg, scD, List.all_cons, List.all_nil]
      · have h : (t.getD k Node.zero).name = s := by simpa using h
        have := find_hit hk' hpre h
        have hn : ¬ (k : Int) < 0 := by omega
        simp only [this, if_neg hn, nums, rowsS, nodes, zv, nv, bv, sv, VZ, BEq.rfl, seval, -Int.reduceNatCast', kAgg, scD, List.all_cons, List.all_nil]
      · have h : ¬ (t.getD k Node.zero).name = s := by simpa using h
        simp only [wrap_nat (k := k) (by omega), nums, rowsS, nodes, zv, nv, bv, sv, VZ, BEq.rfl, seval, -Int.reduceNatCast', kAgg, scD, List.all_cons, List.all_nil]
        refine ⟨k + 1, Enter.id ?_, ⟨by omega, fun j hj => ?_⟩, by show t.length - (k + 1) < t.length - k; omega⟩
        · simp only [nums, rowsS, nodes, zv, nv, bv, sv, VZ, BEq.rfl, seval, -Int.reduceNatCast', kAgg, scD, List.all_cons, List.all_nil]
        · by_cases e : j = k
          · rw [e]; exact h
          · exact hpre j (by omega)
    · have hk' : k = t.length := by
        have : ¬ k < t.length := by simpa using h
        omega
      have := find_none fun j hj => hpre j (by omega)
      have hn : (-1 : Int) < 0 := by decide
      simp only [this, if_true, hn, nums, rowsS, nodes, zv, nv, bv, sv, VZ, BEq.rfl, seval, -Int.reduceNatCast', kAgg, scD, List.all_cons, List.all_nil]

/-! lists of numbers, trees: the same -/
theorem take_succ_eq {α : Type} (z : α) {xs ys : List α} {k : Nat} (h : k < xs.length) (h' : k < ys.length) (hp : xs.take k = ys.take k) (he : xs.getD k z = ys.getD k z) : xs.take (k + 1) = ys.take (k + 1) := by
  rw [List.take_add_one, List.take_add_one, hp, List.getElem?_eq_getElem h, List.getElem?_eq_getElem h', ← getD_of z xs k h, ← getD_of z ys k h', he]
theorem len_ne (m n : Nat) : ((m : Int) != (n : Int)) = !decide (m = n) := by
  rw [bne, int_beq]; congr 2; exact propext ⟨fun h => by omega, fun h => by omega⟩
theorem numbers_ok (xs ys : List Int) (hx : xs.length ≤ 1000) : Ok Try.prog E 31 [.c (nums xs), .c (nums ys)] (bv (decide (xs = ys))) := by
  refine ok_of_vc (L := []) (ts := [4]) envOK mixed Try.func31 rfl (by kernel_rfl) rfl (by kernel_rfl) rfl fun hl => ?_
  simp only [Try.f31, len_ne, nums, rowsS, nodes, zv, nv, bv, sv, VZ, BEq.rfl, seval, -Int.reduceNatCast', kAgg, scD, List.all_cons, List.all_nil]
  refine guardB.mk (fun h => ?_) (fun h => ?_) <;> simp only [h, nums, rowsS, nodes, zv, nv, bv, sv, VZ, BEq.rfl, seval, -Int.reduceNatCast', kAgg, scD, List.all_cons, List.all_nil]
  · have h : xs.length ≠ ys.length := by simpa using h
    have hne : xs ≠ ys := fun e => h (by rw [e])
    simp only [decide_eq_false hne, nums, rowsS, nodes, zv, nv, bv, sv, VZ, BEq.rfl, seval, -Int.reduceNatCast', kAgg, scD, List.all_cons, List.all_nil]
  have hxy : xs.length = ys.length := by simpa using h
  clear h
  refine LoopVC.mk (Y := Nat) (fun k => k ≤ xs.length ∧ xs.take k = ys.take k) (fun k => ⟨[(0, .c (nums xs)), (1, .c (nums ys)), (5, nv k)], []⟩) (fun k => xs.length - k) ⟨0, Enter.id ?_, by omega, rfl⟩ ?_
  · simp only [nums, rowsS, nodes, zv, nv, bv, sv, VZ, BEq.rfl, seval, -Int.reduceNatCast', kAgg, scD, List.all_cons, List.all_nil]
    try rfl
  rintro k ⟨hk, hpre⟩
  simp only [lt_nat, nums, rowsS, nodes, zv, nv, bv, sv, VZ, BEq.rfl, seval, -Int.reduceNatCast', kAgg, scD, List.all_cons, List.all_nil]
  refine guardB.mk (fun h => ?_) (fun h => ?_)
  · have hk' : k < xs.length := by simpa using h
    clear h
    have hn := take_succ_eq 0 hk' (show k < ys.length by omega) hpre
    have hb : xs.getD k 0 ≠ ys.getD k 0 → xs ≠ ys := fun h e => h (by rw [e])
    simp only [getD_num xs k hk', getD_num ys k (by omega), num_def, bne, int_beq, nums, rowsS, nodes, zv, nv, bv, sv, VZ, BEq.rfl, seval, -Int.reduceNatCast', kAgg, scD, List.all_cons, List.all_nil]
    refine ⟨⟨Int.natCast_nonneg k, by omega⟩, ⟨Int.natCast_nonneg k, by omega⟩, ?_⟩
    refine guardB.mk (fun h => ?_) (fun h => ?_) <;> simp only [h, wrap_nat (k := k) (by omega), nums, rowsS, nodes, zv, nv, bv, sv, VZ, BEq.rfl, seval, -Int.reduceNatCast', kAgg, scD, List.all_cons, List.all_nil]
    · have h : xs.getD k 0 ≠ ys.getD k 0 := by simpa using h
      simp only [decide_eq_false (hb h), nums, rowsS, nodes, zv, nv, bv, sv, VZ, BEq.rfl, seval, -Int.reduceNatCast', kAgg, scD, List.all_cons, List.all_nil]
    · have h : xs.getD k 0 = ys.getD k 0 := by simpa using h
      refine ⟨k + 1, Enter.id ?_, ⟨by omega, hn h⟩, by show xs.length - (k + 1) < xs.length - k; omega⟩
      simp only [nums, rowsS, nodes, zv, nv, bv, sv, VZ, BEq.rfl, seval, -Int.reduceNatCast', kAgg, scD, List.all_cons, List.all_nil]
  · have hk' : k = xs.length := by
      have : ¬ k < xs.length := by simpa using h
      omega
    subst hk'
    rw [List.take_length, List.take_of_length_le (by omega)] at hpre
    simp only [decide_eq_true hpre, nums, rowsS, nodes, zv, nv, bv, sv, VZ, BEq.rfl, seval, -Int.reduceNatCast', kAgg, scD, List.all_cons, List.all_nil]

theorem node_same (x y : Node) : (decide (x.parent = y.parent) && decide (x.name = y.name)) = decide (x = y) := by
  cases x; cases y
  simp [Node.mk.injEq, Bool.decide_and]
theorem same_ok (xs ys : List Node) (hx : xs.length ≤ 9223372036854775806) : Ok Try.prog E 20 [.c (nodes xs), .c (nodes ys)] (bv (decide (xs = ys))) := by
  refine ok_of_vc (L := []) (ts := [4]) envOK mixed Try.func20 rfl (by kernel_rfl) rfl (by kernel_rfl) rfl fun hl => ?_
  simp only [Try.f20, len_ne, nums, rowsS, nodes, zv, nv, bv, sv, VZ, BEq.rfl, seval, -Int.reduceNatCast', kAgg, scD, List.all_cons, List.all_nil]
  refine guardB.mk (fun h => ?_) (fun h => ?_) <;> simp only [h, nums, rowsS, nodes, zv, nv, bv, sv, VZ, BEq.rfl, seval, -Int.reduceNatCast', kAgg, scD, List.all_cons, List.all_nil]
  · have h : xs.length ≠ ys.length := by simpa using h
    have hne : xs ≠ ys := fun e => h (by rw [e])
    simp only [decide_eq_false hne, nums, rowsS, nodes, zv, nv, bv, sv, VZ, BEq.rfl, seval, -Int.reduceNatCast', kAgg, scD, List.all_cons, List.all_nil]
  have hxy : xs.length = ys.length := by simpa using h
  clear h
  refine LoopVC.mk (Y := Nat) (fun k => k ≤ xs.length ∧ xs.take k = ys.take k) (fun k => ⟨[(0, .c (nodes xs)), (1, .c (nodes ys)), (5, nv k)], []⟩) (fun k => xs.length - k) ⟨0, Enter.id ?_, by omega, rfl⟩ ?_
  · simp only [nums, rowsS, nodes, zv, nv, bv, sv, VZ, BEq.rfl, seval, -Int.reduceNatCast', kAgg, scD, List.all_cons, List.all_nil]
    try rfl
  rintro k ⟨hk, hpre⟩
  simp only [lt_nat, nums, rowsS, nodes, zv, nv, bv, sv, VZ, BEq.rfl, seval, -Int.reduceNatCast', kAgg, scD, List.all_cons, List.all_nil]
  refine guardB.mk (fun h => ?_) (fun h => ?_)
  · have hk' : k < xs.length := by simpa using h
    clear h
    have hn := take_succ_eq Node.zero hk' (show k < ys.length by omega) hpre
    have hb : xs.getD k Node.zero ≠ ys.getD k Node.zero → xs ≠ ys := fun h e => h (by rw [e])
    simp only [getD_node xs k hk', getD_node ys k (by omega), node_def, str_beq, int_beq, node_same, nums, rowsS, nodes, zv, nv, bv, sv, VZ, BEq.rfl, seval, -Int.reduceNatCast', kAgg, scD, List.all_cons, List.all_nil]
    refine ⟨⟨Int.natCast_nonneg k, by omega⟩, ⟨Int.natCast_nonneg k, by omega⟩, ?_⟩
    refine guardB.mk (fun h => ?_) (fun h => ?_) <;> simp only [h, wrap_nat (k := k) (by omega), nums, rowsS, nodes, zv, nv, bv, sv, VZ, BEq.rfl, seval, -Int.reduceNatCast', kAgg, scD, List.all_cons, List.all_nil]
    · have h : xs.getD k Node.zero ≠ ys.getD k Node.zero := by simpa using h
      simp only [decide_eq_false (hb h), nums, rowsS, nodes, zv, nv, bv, sv, VZ, BEq.rfl, seval, -Int.reduceNatCast', kAgg, scD, List.all_cons, List.all_nil]
    · have h : xs.getD k Node.zero = ys.getD k Node.zero := by simpa using h
      refine ⟨k + 1, Enter.id ?_, ⟨by omega, hn h⟩, by show xs.length - (k + 1) < xs.length - k; omega⟩
      simp only [nums, rowsS, nodes, zv, nv, bv, sv, VZ, BEq.rfl, seval, -Int.reduceNatCast', kAgg, scD, List.all_cons, List.all_nil]
  · have hk' : k = xs.length := by
      have : ¬ k < xs.length := by simpa using h
      omega
    subst hk'
    rw [List.take_length, List.take_of_length_le (by omega)] at hpre
    simp only [decide_eq_true hpre, nums, rowsS, nodes, zv, nv, bv, sv, VZ, BEq.rfl, seval, -Int.reduceNatCast', kAgg, scD, List.all_cons, List.all_nil]
theorem rSame_ok (xs ys : List Node) (hx : xs.length ≤ 9223372036854775806) : Ok Try.prog E 29 [.c (nodes xs), .c (nodes ys)] (bv (decide (xs = ys))) := by
  refine ok_of_vc (L := []) (ts := [4]) envOK mixed Try.func29 rfl (by kernel_rfl) rfl (by kernel_rfl) rfl fun hl => ?_
  simp only [Try.f29, len_ne, nums, rowsS, nodes, zv, nv, bv, sv, VZ, BEq.rfl, seval, -Int.reduceNatCast', kAgg, scD, List.all_cons, List.all_nil]
  refine guardB.mk (fun h => ?_) (fun h => ?_) <;> simp only [h, nums, rowsS, nodes, zv, nv, bv, sv, VZ, BEq.rfl, seval, -Int.reduceNatCast', kAgg, scD, List.all_cons, List.all_nil]
  · have h : xs.length ≠ ys.length := by simpa using h
    have hne : xs ≠ ys := fun e => h (by rw [e])
    simp only [decide_eq_false hne, nums, rowsS, nodes, zv, nv, bv, sv, VZ, BEq.rfl, seval, -Int.reduceNatCast', kAgg, scD, List.all_cons, List.all_nil]
  have hxy : xs.length = ys.length := by simpa using h
  clear h
  refine LoopVC.mk (Y := Nat) (fun k => k ≤ xs.length ∧ xs.take k = ys.take k) (fun k => ⟨[(0, .c (nodes xs)), (1, .c (nodes ys)), (5, nv k)], []⟩) (fun k => xs.length - k) ⟨0, Enter.id ?_, by omega, rfl⟩ ?_
  · simp only [nums, rowsS, nodes, zv, nv, bv, sv, VZ, BEq.rfl, seval, -Int.reduceNatCast', kAgg, scD, List.all_cons, List.all_nil]
    try rfl
  rintro k ⟨hk, hpre⟩
  simp only [lt_nat, nums, rowsS, nodes, zv, nv, bv, sv, VZ, BEq.rfl, seval, -Int.reduceNatCast', kAgg, scD, List.all_cons, List.all_nil]
  refine guardB.mk (fun h => ?_) (fun h => ?_)
  · have hk' : k < xs.length := by simpa using h
    clear h
    have hn := take_succ_eq Node.zero hk' (show k < ys.length by omega) hpre
    have hb : xs.getD k Node.zero ≠ ys.getD k Node.zero → xs ≠ ys := fun h e => h (by rw [e])
    simp only [getD_node xs k hk', getD_node ys k (by omega), node_def, str_beq, int_beq, node_same, nums, rowsS, nodes, zv, nv, bv, sv, VZ, BEq.rfl, seval, -Int.reduceNatCast', kAgg, scD, List.all_cons, List.all_nil]
    refine ⟨⟨Int.natCast_nonneg k, by omega⟩, ⟨Int.natCast_nonneg k, by omega⟩, ?_⟩
    refine guardB.mk (fun h => ?_) (fun h => ?_) <;> simp only [h, wrap_nat (k := k) (by omega), nums, rowsS, nodes, zv, nv, bv, sv, VZ, BEq.rfl, seval, -Int.reduceNatCast', kAgg, scD, List.all_cons, List.all_nil]
    · have h : xs.getD k Node.zero ≠ ys.getD k Node.zero := by simpa using h
      simp only [decide_eq_false (hb h), nums, rowsS, nodes, zv, nv, bv, sv, VZ, BEq.rfl, seval, -Int.reduceNatCast', kAgg, scD, List.all_cons, List.all_nil]
    · have h : xs.getD k Node.zero = ys.getD k Node.zero := by simpa using h
      refine ⟨k + 1, Enter.id ?_, ⟨by omega, hn h⟩, by show xs.length - (k + 1) < xs.length - k; omega⟩
      simp only [nums, rowsS, nodes, zv, nv, bv, sv, VZ, BEq.rfl, seval, -Int.reduceNatCast', kAgg, scD, List.all_cons, List.all_nil]
  · have hk' : k = xs.length := by
      have : ¬ k < xs.length := by simpa using h
      omega
    subst hk'
    rw [List.take_length, List.take_of_length_le (by omega)] at hpre
    simp only [decide_eq_true hpre, nums, rowsS, nodes, zv, nv, bv, sv, VZ, BEq.rfl, seval, -Int.reduceNatCast', kAgg, scD, List.all_cons, List.all_nil]

/-! Clade -/
def bitsU (n : Nat) : AV := .c (.sc (.int .u64 n))
def cladeTo (t : List Node) (v : Nat) : Nat → Nat
  | 0 => 0
  | k + 1 => if v ∈ ups t ((leavesOf t).getD k 0).toNat then cladeTo t v k ||| 2 ^ k else cladeTo t v k
def clade (t : List Node) (v : Nat) : Nat := cladeTo t v (leavesOf t).length
theorem cladeTo_lt (t : List Node) (v k : Nat) : cladeTo t v k < 2 ^ k := by
  induction k with
  | zero => exact Nat.zero_lt_one
  | succ k ih =>
    have : 2 ^ k < 2 ^ (k + 1) := Nat.pow_lt_pow_right (by decide) (Nat.lt_succ_self _)
    rw [cladeTo]
    split
    · exact Nat.or_lt_two_pow (by omega) this
    · omega
theorem leaf_at {t : List Node} {k : Nat} (h : k < (leavesOf t).length) : ∃ u : Nat, (leavesOf t).getD k 0 = (u : Int) ∧ u < t.length := by
  have hm : (leavesOf t).getD k 0 ∈ leavesOf t := by rw [getD_of 0 _ k h]; exact List.getElem_mem h
  obtain ⟨u, hu, e⟩ := List.mem_map.1 hm
  have := (List.mem_filter.1 hu).1
  exact ⟨u, e.symm, by simpa using this⟩
theorem wraps_u64 (n : Int) (h₀ : 0 ≤ n) (h₁ : n < 2 ^ 64) : IntKind.u64.wrap n = n := by rw [IntKind.wrap_u64]; omega
theorem pow_lt64 {k : Nat} (h : k < 64) : 2 ^ k < 2 ^ 64 := Nat.pow_lt_pow_right (by decide) h
theorem shl_one {k : Nat} (h : k < 64) : IntKind.u64.wrap (1 * 2 ^ (min k IntKind.u64.bits)) = ((2 ^ k : Nat) : Int) := by
  have hb : IntKind.u64.bits = 64 := rfl
  have := pow_lt64 h
  have e : ((2 : Int) ^ k) = ((2 ^ k : Nat) : Int) := by simp
  rw [hb, Nat.min_eq_left (by omega), Int.one_mul, e, wraps_u64 _ (Int.natCast_nonneg _) (by omega)]
theorem or_u64 {a b : Nat} (ha : a < 2 ^ 64) (hb : b < 2 ^ 64) : bits .or .u64 (a : Int) (b : Int) = ((a ||| b : Nat) : Int) := (bits_nat .u64 64 (by decide) wraps_u64 a b ha hb).2
theorem and_u64 {a b : Nat} (ha : a < 2 ^ 64) (hb : b < 2 ^ 64) : bits .and .u64 (a : Int) (b : Int) = ((a &&& b : Nat) : Int) := (bits_nat .u64 64 (by decide) wraps_u64 a b ha hb).1

theorem rClade_inner (t : List Node) (v : Nat) (ht : okTree t = true) (hv : v < t.length) {k : Nat} (hk : k < (leavesOf t).length) : (com t ((leavesOf t).getD k 0).toNat v = v) ↔ v ∈ ups t ((leavesOf t).getD k 0).toNat := by
  obtain ⟨u, hu, hlt⟩ := leaf_at hk
  rw [hu, Int.toNat_natCast]
  exact com_eq ht hlt hv
def cladeV (t : List Node) (v : Int) : Nat := if chkE t [v] = 0 then clade t v.toNat else 0
theorem rClade_ok (t : List Node) (v : Int) (hs : Small t) : Ok Try.prog E 41 [.c (nodes t), zv v] (.tp [bitsU (cladeV t v), zv (chkE t [v])]) := by
  refine ok_of_vc (L := []) (ts := [4, 5]) envOK mixed Try.func41 rfl (by kernel_rfl) rfl (by kernel_rfl) rfl fun hl => ?_
  simp only [Try.f41, bitsU, nums, rowsS, nodes, zv, nv, bv, sv, VZ, BEq.rfl, seval, -Int.reduceNatCast', kAgg, scD, List.all_cons, List.all_nil]
  refine CallX.mk (rnode_ok t v hs) rfl ?_
  by_cases hc : chkE t [v] = 0
  · obtain ⟨ht, u, rfl, hu⟩ := chk_one hc
    have hd : cladeV t (u : Int) = clade t u := by rw [cladeV, if_pos hc]; rfl
    have h63 := (okTree_len ht).2
    have hll := leaves_len t
    have hlR := leavesR_true ht
    simp only [hc, hd, nums, rowsS, nodes, zv, nv, bv, sv, VZ, BEq.rfl, seval, -Int.reduceNatCast', kAgg, scD, List.all_cons, List.all_nil]
    refine CallX.mk (rLeaves_ok t hs) rfl ?_
    simp only [hlR, nums, rowsS, nodes, zv, nv, bv, sv, VZ, BEq.rfl, seval, -Int.reduceNatCast', kAgg, scD, List.all_cons, List.all_nil]
    obtain ⟨l, hl0⟩ : ∃ l, leavesOf t = l := ⟨_, rfl⟩
    rw [hl0] at hll
    simp only [hl0]
    refine LoopVC.mk (Y := Nat) (fun k => k ≤ l.length) (fun k => ⟨[(0, .c (nodes t)), (1, nv u), (7, .c (nums l)), (9, bitsU (cladeTo t u k)), (10, nv k)], []⟩) (fun k => l.length - k) ⟨0, Enter.id ?_, by omega⟩ ?_
    · simp only [bitsU, nums, rowsS, nodes, zv, nv, bv, sv, VZ, BEq.rfl, seval, -Int.reduceNatCast', kAgg, scD, List.all_cons, List.all_nil]
      exact ⟨rfl, rfl⟩
    intro k hk
    simp only [lt_nat, bitsU, nums, rowsS, nodes, zv, nv, bv, sv, VZ, BEq.rfl, seval, -Int.reduceNatCast', kAgg, scD, List.all_cons, List.all_nil]
    refine guardB.mk (fun h => ?_) (fun h => ?_)
    · have hk' : k < l.length := by simpa using h
      clear h
      have hka : k < (leavesOf t).length := by rw [hl0]; exact hk'
      obtain ⟨s, hs1, hs2⟩ := leaf_at hka
      have hin := rClade_inner t u ht hu hka
      have hct : cladeTo t u (k + 1) = if u ∈ ups t ((leavesOf t).getD k 0).toNat then cladeTo t u k ||| 2 ^ k else cladeTo t u k := rfl
      have hlt := cladeTo_lt t u k
      have hp := pow_lt64 (k := k) (by omega)
      have hlt : cladeTo t u k < 2 ^ 64 := Nat.lt_trans hlt hp
      rw [hs1, Int.toNat_natCast] at hin hct
      rw [hl0] at hs1
      simp only [getD_num l k hk', hs1, num_def, nums, rowsS, nodes, zv, nv, bv, sv, VZ, BEq.rfl, seval, -Int.reduceNatCast', kAgg, scD, List.all_cons, List.all_nil]
      refine ⟨⟨Int.natCast_nonneg k, hk'⟩, ?_⟩
      refine CallX.mk (rcommon_ok t s u ht hs2 hu) rfl ?_
      simp only [nums, rowsS, nodes, zv, nv, bv, sv, VZ, BEq.rfl, seval, -Int.reduceNatCast', kAgg, scD, List.all_cons, List.all_nil]
      refine guardB.mk (fun h => ?_) (fun h => ?_)
      · have h : com t s u = u := by
          have : (com t s u : Int) = (u : Int) := by simpa using h
          omega
        rw [if_pos (hin.1 h)] at hct
        have hor := or_u64 (a := cladeTo t u k) (b := 2 ^ k) (by omega) hp
        rw [← hct] at hor
        simp only [‹_ = true›, wrap_nat (k := k) (by omega), shl_one (k := k) (by omega), hor, nums, rowsS, nodes, zv, nv, bv, sv, VZ, BEq.rfl, seval, -Int.reduceNatCast', kAgg, scD, List.all_cons, List.all_nil]
        refine ⟨Int.natCast_nonneg k, k + 1, Enter.id ?_, by omega, by show l.length - (k + 1) < l.length - k; omega⟩
        simp only [bitsU, nums, rowsS, nodes, zv, nv, bv, sv, VZ, BEq.rfl, seval, -Int.reduceNatCast', kAgg, scD, List.all_cons, List.all_nil]
      · have h : ¬ com t s u = u := fun e => by
          have : ¬ (com t s u : Int) = (u : Int) := by simpa using h
          exact this (by rw [e])
        rw [if_neg fun e => h (hin.2 e)] at hct
        simp only [‹_ = false›, wrap_nat (k := k) (by omega), ← hct, nums, rowsS, nodes, zv, nv, bv, sv, VZ, BEq.rfl, seval, -Int.reduceNatCast', kAgg, scD, List.all_cons, List.all_nil]
        refine ⟨k + 1, Enter.id ?_, by omega, by show l.length - (k + 1) < l.length - k; omega⟩
        simp only [bitsU, nums, rowsS, nodes, zv, nv, bv, sv, VZ, BEq.rfl, seval, -Int.reduceNatCast', kAgg, scD, List.all_cons, List.all_nil]
    · have hk' : k = l.length := by
        have : ¬ k < l.length := by simpa using h
        omega
      subst hk'
      simp only [clade, hl0, nums, rowsS, nodes, zv, nv, bv, sv, VZ, BEq.rfl, seval, -Int.reduceNatCast', kAgg, scD, List.all_cons, List.all_nil]
  · have h1 : (chkE t [v] != 0) = true := by rw [chk_eq, decide_eq_false hc]; rfl
    simp only [h1, cladeV, if_neg hc, nums, rowsS, nodes, zv, nv, bv, sv, VZ, BEq.rfl, seval, -Int.reduceNatCast', kAgg, scD, List.all_cons, List.all_nil]
    try rfl

def inV (A k : Nat) (L : List Nat) (u j : Nat) : Nat := if u ∈ L.take j then A ||| 2 ^ k else A
theorem inV_hit {A k : Nat} {L : List Nat} {u j : Nat} (hj : j < L.length) (h : L.getD j 0 = u) : inV A k L u (j + 1) = inV A k L u j ||| 2 ^ k := by
  have hm : u ∈ L.take (j + 1) := by
    rw [List.take_add_one, List.getElem?_eq_getElem hj, ← getD_of 0 L j hj, h]
    exact List.mem_append_right _ (List.mem_singleton.2 rfl)
  rw [inV, inV, if_pos hm]
  split
  · rw [Nat.or_assoc, Nat.or_self]
  · rfl
theorem inV_miss {A k : Nat} {L : List Nat} {u j : Nat} (hj : j < L.length) (h : ¬ L.getD j 0 = u) : inV A k L u (j + 1) = inV A k L u j := by
  have hm : u ∈ L.take (j + 1) ↔ u ∈ L.take j := by
    rw [List.take_add_one, List.getElem?_eq_getElem hj, ← getD_of 0 L j hj, List.mem_append]
    refine ⟨fun e => e.resolve_right fun e => h (List.mem_singleton.1 e).symm, .inl⟩
  rw [inV, inV]
  simp only [hm]
theorem inV_lt {A k : Nat} (L : List Nat) (u j : Nat) (hA : A < 2 ^ k) (hk : k < 63) : inV A k L u j < 2 ^ 64 := by
  have h1 : 2 ^ k < 2 ^ 64 := pow_lt64 (by omega)
  rw [inV]
  split
  · exact Nat.or_lt_two_pow (by omega) h1
  · omega
theorem Clade_ok (t : List Node) (v : Int) (hs : Small t) : Ok Try.prog E 25 [.c (nodes t), zv v] (.tp [bitsU (cladeV t v), zv (chkE t [v])]) := by
  refine ok_of_vc (L := []) (ts := [4, 5]) envOK mixed Try.func25 rfl (by kernel_rfl) rfl (by kernel_rfl) rfl fun hl => ?_
  simp only [Try.f25, bitsU, nums, rowsS, nodes, zv, nv, bv, sv, VZ, BEq.rfl, seval, -Int.reduceNatCast', kAgg, scD, List.all_cons, List.all_nil]
  refine CallX.mk (chk_ok t [v] hs (by simp)) rfl ?_
  by_cases hc : chkE t [v] = 0
  · obtain ⟨ht, u, rfl, hu⟩ := chk_one hc
    have hd : cladeV t (u : Int) = clade t u := by rw [cladeV, if_pos hc]; rfl
    have h63 := (okTree_len ht).2
    have hll := leaves_len t
    simp only [hc, hd, nums, rowsS, nodes, zv, nv, bv, sv, VZ, BEq.rfl, seval, -Int.reduceNatCast', kAgg, scD, List.all_cons, List.all_nil]
    refine CallX.mk (Ok.val (leaves_ok t ht)) rfl ?_
    simp only [nums, rowsS, nodes, zv, nv, bv, sv, VZ, BEq.rfl, seval, -Int.reduceNatCast', kAgg, scD, List.all_cons, List.all_nil]
    obtain ⟨l, hl0⟩ : ∃ l, leavesOf t = l := ⟨_, rfl⟩
    rw [hl0] at hll
    simp only [hl0]
    refine LoopVC.mk (Y := Nat) (fun k => k ≤ l.length) (fun k => ⟨[(0, .c (nodes t)), (3, .bp 3 0), (7, .bp 7 0), (19, .c (nums l)), (20, nv l.length), (21, nv k)], [(3, .cells [nv u]), (7, .cells [bitsU (cladeTo t u k)])]⟩) (fun k => l.length - k) ⟨0, Enter.mk [] [] [] ?_, by omega⟩ ?_
    · simp only [bitsU, nums, rowsS, nodes, zv, nv, bv, sv, VZ, BEq.rfl, seval, -Int.reduceNatCast', kAgg, scD, List.all_cons, List.all_nil]
      exact ⟨rfl, rfl⟩
    intro k hk
    simp only [lt_nat, bitsU, nums, rowsS, nodes, zv, nv, bv, sv, VZ, BEq.rfl, seval, -Int.reduceNatCast', kAgg, scD, List.all_cons, List.all_nil]
    refine guardB.mk (fun h => ?_) (fun h => ?_)
    · have hk' : k < l.length := by simpa using h
      clear h
      have hka : k < (leavesOf t).length := by rw [hl0]; exact hk'
      obtain ⟨s, hs1, hs2⟩ := leaf_at hka
      have hct : cladeTo t u (k + 1) = if u ∈ ups t ((leavesOf t).getD k 0).toNat then cladeTo t u k ||| 2 ^ k else cladeTo t u k := rfl
      have hlt := cladeTo_lt t u k
      have hp := pow_lt64 (k := k) (by omega)
      rw [hs1, Int.toNat_natCast] at hct
      rw [hl0] at hs1
      have hinl := fun j => inV_lt (ups t s) u j hlt (by omega)
      have hin0 : inV (cladeTo t u k) k (ups t s) u 0 = cladeTo t u k := by rw [inV, List.take_zero, if_neg (by simp)]
      have hin1 : inV (cladeTo t u k) k (ups t s) u (ups t s).length = cladeTo t u (k + 1) := by rw [inV, List.take_length, hct]
      have hhit := fun j h1 h2 => inV_hit (A := cladeTo t u k) (k := k) (L := ups t s) (u := u) (j := j) h1 h2
      have hmiss := fun j h1 h2 => inV_miss (A := cladeTo t u k) (k := k) (L := ups t s) (u := u) (j := j) h1 h2
      obtain ⟨F, hF⟩ : ∃ F, inV (cladeTo t u k) k (ups t s) u = F := ⟨_, rfl⟩
      simp only [hF] at hinl hin0 hin1 hhit hmiss
      simp only [getD_num l k hk', hs1, num_def, nums, rowsS, nodes, zv, nv, bv, sv, VZ, BEq.rfl, seval, -Int.reduceNatCast', kAgg, scD, List.all_cons, List.all_nil]
      refine ⟨⟨Int.natCast_nonneg k, hk'⟩, ?_⟩
      refine CallX.mut (CallMVC.mk [] [(2001, 5001), (2002, 5002)] (up_ok t s) ?_ ?_)
      · simp only [nums, rowsS, nodes, zv, nv, bv, sv, VZ, BEq.rfl, seval, -Int.reduceNatCast', kAgg, scD, List.all_cons, List.all_nil]
      simp only [nums, rowsS, nodes, zv, nv, bv, sv, VZ, BEq.rfl, seval, -Int.reduceNatCast', kAgg, scD, List.all_cons, List.all_nil]
      have hU := ups_ok ht hs2
      have hul := hU.len
      refine RangeVC.mk (Y := Nat) [(2001, 5001), (2002, 5002)] [] [] (up_seq t s ht hs2) (fun k y => y = k ∧ k ≤ (ups t s).length) (fun j => ⟨[(0, .c (nodes t)), (3, .bp 3 0), (7, .bp 7 0), (8, .bp 8 0), (19, .c (nums l)), (20, nv l.length), (21, nv k)], [(3, .cells [nv u]), (7, .cells [bitsU (F j)]), (8, .cells [nv k])]⟩) rfl ?_ upES_one ⟨0, ?_, rfl, by omega⟩ ?_ ?_
      · simp only [nums, rowsS, nodes, zv, nv, bv, sv, VZ, BEq.rfl, seval, -Int.reduceNatCast', kAgg, scD, List.all_cons, List.all_nil]
      · simp only [hin0, bitsU, nums, rowsS, nodes, zv, nv, bv, sv, VZ, BEq.rfl, seval, -Int.reduceNatCast', kAgg, scD, List.all_cons, List.all_nil]
      · rintro j0 e y he ⟨rfl, hj⟩
        obtain ⟨h1, rfl⟩ := upES_at he
        have hh := hhit y h1
        have hm := hmiss y h1
        have hFy := hinl y
        obtain ⟨x, hx⟩ : ∃ x, (ups t s).getD y 0 = x := ⟨_, rfl⟩
        rw [hx] at hh hm
        simp only [hx, bitsU, int_beq, nums, rowsS, nodes, zv, nv, bv, sv, VZ, BEq.rfl, seval, -Int.reduceNatCast', kAgg, scD, List.all_cons, List.all_nil]
        refine guardB.mk (fun h => ?_) (fun h => ?_) <;> simp only [h, nums, rowsS, nodes, zv, nv, bv, sv, VZ, BEq.rfl, seval, -Int.reduceNatCast', kAgg, scD, List.all_cons, List.all_nil]
        · have h : x = u := by
            have : (x : Int) = (u : Int) := by simpa using h
            omega
          have hor := or_u64 (a := F y) (b := 2 ^ k) hFy hp
          rw [← hh h] at hor
          simp only [shl_one (k := k) (by omega), hor, nums, rowsS, nodes, zv, nv, bv, sv, VZ, BEq.rfl, seval, -Int.reduceNatCast', kAgg, scD, List.all_cons, List.all_nil]
          refine ⟨Int.natCast_nonneg k, y + 1, Enter.mk [] [] [] ?_, rfl, by omega⟩
          simp only [bitsU, nums, rowsS, nodes, zv, nv, bv, sv, VZ, BEq.rfl, seval, -Int.reduceNatCast', kAgg, scD, List.all_cons, List.all_nil]
        · have h : ¬ x = u := fun e => by
            have : ¬ (x : Int) = (u : Int) := by simpa using h
            exact this (by rw [e])
          rw [← hm h]
          refine ⟨y + 1, Enter.mk [] [] [] ?_, rfl, by omega⟩
          simp only [bitsU, nums, rowsS, nodes, zv, nv, bv, sv, VZ, BEq.rfl, seval, -Int.reduceNatCast', kAgg, scD, List.all_cons, List.all_nil]
      · rintro y ⟨rfl, hk⟩
        rw [upES_len]
        simp only [hin1, bitsU, wrap_nat (k := k) (by omega), nums, rowsS, nodes, zv, nv, bv, sv, VZ, BEq.rfl, seval, -Int.reduceNatCast', kAgg, scD, List.all_cons, List.all_nil]
        refine ⟨k + 1, Enter.mk [] [] [] ?_, by omega, by show l.length - (k + 1) < l.length - k; omega⟩
        simp only [bitsU, nums, rowsS, nodes, zv, nv, bv, sv, VZ, BEq.rfl, seval, -Int.reduceNatCast', kAgg, scD, List.all_cons, List.all_nil]
    · have hk' : k = l.length := by
        have : ¬ k < l.length := by simpa using h
        omega
      subst hk'
      simp only [clade, hl0, nums, rowsS, nodes, zv, nv, bv, sv, VZ, BEq.rfl, seval, -Int.reduceNatCast', kAgg, scD, List.all_cons, List.all_nil]
  · have h1 : (chkE t [v] != 0) = true := by rw [chk_eq, decide_eq_false hc]; rfl
    simp only [h1, cladeV, if_neg hc, nums, rowsS, nodes, zv, nv, bv, sv, VZ, BEq.rfl, seval, -Int.reduceNatCast', kAgg, scD, List.all_cons, List.all_nil]
    try rfl

end Go.Cp
end
