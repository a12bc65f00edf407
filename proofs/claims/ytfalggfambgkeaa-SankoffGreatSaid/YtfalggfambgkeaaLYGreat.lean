/-
  SankoffGreat returns true for every input: costs up to the greatest one add up exactly; a greater one, or one below -1, is refused; so are too many states, and states that there are not. Conditions: none.
-/
import Derived.Test.YtfalggfambgkeaaMN
set_option linter.unusedVariables false
set_option linter.unusedSimpArgs false
set_option maxHeartbeats 8000000
set_option maxRecDepth 100000
namespace Go.Cp
open Go Go.Proofs Go.Vx

abbrev MX : Int := 1073741824
theorem great_shift : Shift [[0, 0], [-1, 0]] [[1073741824, 1073741824], [-1, 1073741824]] 1073741824 where
  len := rfl
  pos := by omega
  m1 := fun a b => by
    match a, b with
    | 0, 0 => decide
    | 0, 1 => decide
    | 1, 0 => decide
    | 1, 1 => decide
    | 0, b + 2 => exact by show -1 ≤ ([0, 0] : List Int).getD (b + 2) 0; simp
    | 1, b + 2 => exact by show -1 ≤ ([-1, 0] : List Int).getD (b + 2) 0; simp
    | a + 2, b => exact by show -1 ≤ (([[0, 0], [-1, 0]] : List (List Int)).getD (a + 2) []).getD b 0; simp
  cell := fun a b ha hb => by
    have ha : a < 2 := ha
    have hb : b < 2 := hb
    match a, b with
    | 0, 0 => decide
    | 0, 1 => decide
    | 1, 0 => decide
    | 1, 1 => decide
    | 0, b + 2 => omega
    | 1, b + 2 => omega
    | a + 2, b => omega
theorem great_plain {t : List Node} {q : Nat} (ht : okTree t = true) (hq : (leavesOf t).length = q) :
    errP t [[1073741824, 1073741824], [-1, 1073741824]] (List.replicate q 1) = 0 ∧ minV t [[1073741824, 1073741824], [-1, 1073741824]] (List.replicate q 1) = 1073741824 * ((t.length : Int) - 1) := by
  have hc : ∀ m : List (List Int), okM m = true → m.length = 2 → checkE t m (List.replicate q 1) = 0 := fun m hm hl =>
    check_of ht hm (by simp [hq]) fun k hk => by
      rw [List.length_replicate] at hk
      rw [rep_at hk, hl]
      omega
  have hc0 := hc [[0, 0], [-1, 0]] (by decide) rfl
  have hc1 := hc [[1073741824, 1073741824], [-1, 1073741824]] (by decide) rfl
  have hn := (okTree_len ht).1
  have g := good_of hc0
  have hx : ∀ v, 0 < v → v < t.length → xAt t [[0, 0], [-1, 0]] (List.replicate t.length 1) v = 0 := fun v h0 hv => by
    have hp := (g.par v h0 hv).1
    rw [xAt, rep_at hv, rep_at (by omega)]; rfl
  have ha : Asg t [[0, 0], [-1, 0]] (List.replicate q 1) (List.replicate t.length 1) := by
    refine ⟨by simp, fun v hv => by rw [rep_at hv]; exact ⟨by omega, by decide⟩, fun v hv => ?_, fun v h0 hv => by rw [hx v h0 hv]; omega⟩
    have e : aOf (List.replicate t.length 1) v = 1 := by rw [aOf, rep_at hv]; rfl
    rw [e]
    refine (ini_zero (by decide)).2 fun j hj _ => .inr (rep_at ?_)
    omega
  obtain ⟨h1, h2, _⟩ := opt_lower hc0 ha
  have h3 := cost_const (t := t) (m := [[0, 0], [-1, 0]]) (all := List.replicate t.length 1) (s := 0) hx _ (Nat.le_refl _)
  rw [h3] at h2
  have hr : 0 ≤ minV t [[0, 0], [-1, 0]] (List.replicate q 1) := by
    have hr := (errP_zero h1).2
    have hr2 := (root_plus (t := t) (st := List.replicate q 1) great_shift).1
    rw [minV, if_pos h1]
    omega
  have h4 := min_plus great_shift hc0 hc1 h1
  refine ⟨(err_plus great_shift hc0 hc1).trans h1, ?_⟩
  rw [h4]
  simp only [Int.mul_zero] at h2
  omega
theorem sc_numsG (e : Nat) (l : List Int) : ScFr (.fr e (l.map num)) := by
  intro x hx
  obtain ⟨n, _, rfl⟩ := List.mem_map.1 hx
  rfl
theorem sc_res (l : List Int) (e : Int) : ScFr (.tp [.fr 3 (l.map num), zv e]) := fun v hv => by
  rcases List.mem_cons.1 hv with rfl | hv
  · exact sc_numsG 3 l
  · rcases List.mem_cons.1 hv with rfl | hv
    · rfl
    · cases hv
theorem great_bad {t : List Node} {m : List (List Int)} {st : List Int} {e : Int} (he : checkE t m st = e) (h0 : e ≠ 0) : errP t m st = e ∧ minV t m st = 0 ∧ bestV t m st = [] := by
  have h1 : errP t m st = e := by rw [errP, if_neg (by omega)]; exact he
  exact ⟨h1, by rw [minV, if_neg (by omega)], by rw [bestV, if_neg (by omega)]⟩

def tallG (i : Nat) : List (List Int) := List.replicate i (List.replicate 13 0) ++ List.replicate (13 - i) []
theorem tallG_len {i : Nat} (h : i ≤ 13) : (rowsN (tallG i)).length = 13 := by simp [rowsN, tallG]; omega
theorem tallG_set {i : Nat} (h : i < 13) : (rowsN (tallG i)).set i ((List.replicate 13 (0 : Int)).map num) = rowsN (tallG (i + 1)) := by
  have e : (tallG i).set i (List.replicate 13 0) = tallG (i + 1) := by
    have e1 : 13 - i = (13 - (i + 1)) + 1 := by omega
    rw [tallG, tallG, List.set_append, if_neg (by rw [List.length_replicate]; omega), List.length_replicate, Nat.sub_self, e1]
    generalize List.replicate 13 (0 : Int) = z
    rw [List.replicate_succ (n := 13 - (i + 1)), List.set_cons_zero, List.replicate_succ', List.append_assoc]
    rfl
  rw [rowsN, rowsN, ← e, List.map_set]
theorem great_law (ps : List Nat) (c : Nat) (hp : ∀ i, ps.getD i 0 < 256) (hpl : ps.length ≤ 9223372036854775807) (hc : c < 256) : Ok Try.prog E 10 [.c (bytesD ps), .c (.sc (.int .u8 c))] (bv true) := by
  refine ok_of_vc (L := []) (ts := [4]) envOK mixed Try.func10 rfl (by kernel_rfl) rfl (by kernel_rfl) rfl fun hl => ?_
  simp only [Try.f10, nums, rowsS, nodes, zv, bv, sv, nv, uv, bytesD, VL, VB, BEq.rfl, V1, V2, V3, V4, V5, V6, V7, V8, V9, V10, V11, V12, V13, V14, VE, Nat.reduceBEq, Nat.reduceAdd, Nat.reduceSub, Nat.reduceMul, Nat.reduceLeDiff, Nat.reduceLT, Nat.reduceEqDiff, Int.reduceBEq, Int.reduceBNe, Int.reduceLT, Int.reduceLE, Int.reduceAdd, Int.reduceSub, Int.reduceMul, kAgg, scD, List.all_cons, List.all_nil]
  refine CallX.mk (grown_ok ps 62 (by omega) hp hpl) rfl ?_
  have hll := leaves_len (treeD ps)
  have hlp := leaves_pos (treeD_ok ps)
  have hnl : (treeD ps).length = min ps.length 62 + 1 := grownTo_len ps _
  have hsm := treeD_small ps
  have htk := treeD_ok ps
  obtain ⟨T, hT⟩ : ∃ T, treeD ps = T := ⟨_, rfl⟩
  simp only [hT] at hsm hll hlp hnl htk ⊢
  obtain ⟨q, hq⟩ : ∃ q, (leavesOf T).length = q := ⟨_, rfl⟩
  rw [hq] at hll hlp
  obtain ⟨x, hx⟩ : ∃ x, c % 6 = x := ⟨_, rfl⟩
  have hx6 : x < 6 := by omega
  have w1 : Int.tmod (c : Int) 6 = (x : Int) := by rw [← hx]; exact tmodN c 6
  have hchk : ∀ (m : List (List Int)) (st : List Int), okM m = false → checkE T m st = 2 := fun m st h => by
    rw [checkE, htk, h]; rfl
  have hchk3 : q ≠ 0 → checkE T [[1073741824, 1073741824], [-1, 1073741824]] ((List.replicate q 1).set 0 2) = 3 := fun h => by
    have e1 : okM [[1073741824, 1073741824], [-1, 1073741824]] = true := by decide
    have e2 : ((List.replicate q (1 : Int)).set 0 2).all (okS 2) = false := by
      cases q with
      | zero => exact (h rfl).elim
      | succ q => simp [List.replicate_succ, okS]
    rw [checkE, htk, e1, hq, decide_eq_true (by simp)]
    show (bif (true && true) then (bif ((List.replicate q (1 : Int)).set 0 2).all (okS 2) then 0 else 3) else 2) = (3 : Int)
    rw [e2]; rfl
  have hgp := great_plain htk hq
  simp only [hq, w1, nums, rowsS, nodes, zv, bv, sv, nv, uv, bytesD, VL, VB, BEq.rfl, V1, V2, V3, V4, V5, V6, V7, V8, V9, V10, V11, V12, V13, V14, VE, Nat.reduceBEq, Nat.reduceAdd, Nat.reduceSub, Nat.reduceMul, Nat.reduceLeDiff, Nat.reduceLT, Nat.reduceEqDiff, Int.reduceBEq, Int.reduceBNe, Int.reduceLT, Int.reduceLE, Int.reduceAdd, Int.reduceSub, Int.reduceMul, kAgg, scD, List.all_cons, List.all_nil]
  refine CallX.mk (RepI_ok 1 q (by omega)) rfl ?_
  simp only [nums, rowsS, nodes, zv, bv, sv, nv, uv, bytesD, VL, VB, BEq.rfl, V1, V2, V3, V4, V5, V6, V7, V8, V9, V10, V11, V12, V13, V14, VE, Nat.reduceBEq, Nat.reduceAdd, Nat.reduceSub, Nat.reduceMul, Nat.reduceLeDiff, Nat.reduceLT, Nat.reduceEqDiff, Int.reduceBEq, Int.reduceBNe, Int.reduceLT, Int.reduceLE, Int.reduceAdd, Int.reduceSub, Int.reduceMul, kAgg, scD, List.all_cons, List.all_nil]
  rcases (show x = 0 ∨ x = 1 ∨ x = 2 ∨ x = 3 ∨ x = 4 ∨ x = 5 by omega) with h | h | h | h | h | h <;> subst h
  · have w1 : Int.tmod (c : Int) 6 = 0 := w1.trans rfl
    have hX : [[[D.sc (.int .i64 1073741824)], [D.sc (.int .i64 1073741824)]], [[D.sc (.int .i64 (-1))], [D.sc (.int .i64 1073741824)]]] = rowsN [[1073741824, 1073741824], [-1, 1073741824]] := rfl
    simp only [w1, hX, rowsN_D, nums, rowsS, nodes, zv, bv, sv, nv, uv, bytesD, VL, VB, BEq.rfl, V1, V2, V3, V4, V5, V6, V7, V8, V9, V10, V11, V12, V13, V14, VE, Nat.reduceBEq, Nat.reduceAdd, Nat.reduceSub, Nat.reduceMul, Nat.reduceLeDiff, Nat.reduceLT, Nat.reduceEqDiff, Int.reduceBEq, Int.reduceBNe, Int.reduceLT, Int.reduceLE, Int.reduceAdd, Int.reduceSub, Int.reduceMul, kAgg, scD, List.all_cons, List.all_nil]
    refine ⟨by decide, ?_⟩
    refine CallX.mk (Min_ok T [[1073741824, 1073741824], [-1, 1073741824]] (List.replicate q 1) hsm) rfl ?_
    obtain ⟨hb1, hb2⟩ := hgp
    obtain ⟨r, hr⟩ : ∃ r : Nat, T.length = r + 1 := ⟨T.length - 1, by omega⟩
    have w7 : IntKind.i64.wrap ((T.length : Int) - 1) = (r : Int) := by rw [wrap_in (by omega) (by omega)]; omega
    have w8 : IntKind.i64.wrap (1073741824 * (r : Int)) = 1073741824 * (r : Int) := wrap_in (by omega) (by omega)
    have hb3 : minV T [[1073741824, 1073741824], [-1, 1073741824]] (List.replicate q 1) = 1073741824 * (r : Int) := by rw [hb2, show (T.length : Int) - 1 = (r : Int) by omega]
    simp only [hb1, hb3, w7, w8, int_beq, decide_true, nums, rowsS, nodes, zv, bv, sv, nv, uv, bytesD, VL, VB, BEq.rfl, V1, V2, V3, V4, V5, V6, V7, V8, V9, V10, V11, V12, V13, V14, VE, Nat.reduceBEq, Nat.reduceAdd, Nat.reduceSub, Nat.reduceMul, Nat.reduceLeDiff, Nat.reduceLT, Nat.reduceEqDiff, Int.reduceBEq, Int.reduceBNe, Int.reduceLT, Int.reduceLE, Int.reduceAdd, Int.reduceSub, Int.reduceMul, kAgg, scD, List.all_cons, List.all_nil]
    refine CallX.mk works_ok rfl ?_
    simp only [nums, rowsS, nodes, zv, bv, sv, nv, uv, bytesD, VL, VB, BEq.rfl, V1, V2, V3, V4, V5, V6, V7, V8, V9, V10, V11, V12, V13, V14, VE, Nat.reduceBEq, Nat.reduceAdd, Nat.reduceSub, Nat.reduceMul, Nat.reduceLeDiff, Nat.reduceLT, Nat.reduceEqDiff, Int.reduceBEq, Int.reduceBNe, Int.reduceLT, Int.reduceLE, Int.reduceAdd, Int.reduceSub, Int.reduceMul, kAgg, scD, List.all_cons, List.all_nil]
  · have w1 : Int.tmod (c : Int) 6 = 1 := w1.trans rfl
    have w2 : IntKind.i64.wrap 1073741825 = 1073741825 := wrap_in (by omega) (by omega)
    have hX : [[[D.sc (.int .i64 1073741824)], [D.sc (.int .i64 1073741825)]], [[D.sc (.int .i64 (-1))], [D.sc (.int .i64 1073741824)]]] = rowsN [[1073741824, 1073741825], [-1, 1073741824]] := rfl
    have hce := hchk [[1073741824, 1073741825], [-1, 1073741824]] (List.replicate q 1) (by decide)
    obtain ⟨hb1, hb2, hb3⟩ := great_bad hce (by omega)
    simp only [w1, w2, List.getD_cons_zero, List.getD_cons_succ, List.set_cons_zero, List.set_cons_succ, List.map_cons, List.map_nil, List.length_cons, List.length_nil, splice, Int.reduceToNat, Nat.reduceLT, Nat.reduceLeDiff, nums, rowsS, nodes, zv, bv, sv, nv, uv, bytesD, VL, VB, BEq.rfl, V1, V2, V3, V4, V5, V6, V7, V8, V9, V10, V11, V12, V13, V14, VE, Nat.reduceBEq, Nat.reduceAdd, Nat.reduceSub, Nat.reduceMul, Nat.reduceLeDiff, Nat.reduceLT, Nat.reduceEqDiff, Int.reduceBEq, Int.reduceBNe, Int.reduceLT, Int.reduceLE, Int.reduceAdd, Int.reduceSub, Int.reduceMul, kAgg, scD, List.all_cons, List.all_nil]
    refine ⟨by decide, ?_⟩
    simp only [hX, rowsN_D, nums, rowsS, nodes, zv, bv, sv, nv, uv, bytesD, VL, VB, BEq.rfl, V1, V2, V3, V4, V5, V6, V7, V8, V9, V10, V11, V12, V13, V14, VE, Nat.reduceBEq, Nat.reduceAdd, Nat.reduceSub, Nat.reduceMul, Nat.reduceLeDiff, Nat.reduceLT, Nat.reduceEqDiff, Int.reduceBEq, Int.reduceBNe, Int.reduceLT, Int.reduceLE, Int.reduceAdd, Int.reduceSub, Int.reduceMul, kAgg, scD, List.all_cons, List.all_nil]
    refine CallX.mk (Min_ok T [[1073741824, 1073741825], [-1, 1073741824]] (List.replicate q 1) hsm) rfl ?_
    simp only [hX, rowsN_D, nums, rowsS, nodes, zv, bv, sv, nv, uv, bytesD, VL, VB, BEq.rfl, V1, V2, V3, V4, V5, V6, V7, V8, V9, V10, V11, V12, V13, V14, VE, Nat.reduceBEq, Nat.reduceAdd, Nat.reduceSub, Nat.reduceMul, Nat.reduceLeDiff, Nat.reduceLT, Nat.reduceEqDiff, Int.reduceBEq, Int.reduceBNe, Int.reduceLT, Int.reduceLE, Int.reduceAdd, Int.reduceSub, Int.reduceMul, kAgg, scD, List.all_cons, List.all_nil]
    refine CallX.mkF (Best_okF T [[1073741824, 1073741825], [-1, 1073741824]] (List.replicate q 1) hsm) rfl (sc_res _ _) ?_
    simp only [hX, rowsN_D, nums, rowsS, nodes, zv, bv, sv, nv, uv, bytesD, VL, VB, BEq.rfl, V1, V2, V3, V4, V5, V6, V7, V8, V9, V10, V11, V12, V13, V14, VE, Nat.reduceBEq, Nat.reduceAdd, Nat.reduceSub, Nat.reduceMul, Nat.reduceLeDiff, Nat.reduceLT, Nat.reduceEqDiff, Int.reduceBEq, Int.reduceBNe, Int.reduceLT, Int.reduceLE, Int.reduceAdd, Int.reduceSub, Int.reduceMul, kAgg, scD, List.all_cons, List.all_nil]
    refine CallX.mk (Check_ok T [[1073741824, 1073741825], [-1, 1073741824]] (List.replicate q 1) hsm) rfl ?_
    have z0 : ((0 : Nat) : Int) = 0 := rfl
    simp only [hce, hb1, hb2, hb3, z0, int_beq, decide_true, nums, rowsS, nodes, zv, bv, sv, nv, uv, bytesD, VL, VB, BEq.rfl, V1, V2, V3, V4, V5, V6, V7, V8, V9, V10, V11, V12, V13, V14, VE, Nat.reduceBEq, Nat.reduceAdd, Nat.reduceSub, Nat.reduceMul, Nat.reduceLeDiff, Nat.reduceLT, Nat.reduceEqDiff, Int.reduceBEq, Int.reduceBNe, Int.reduceLT, Int.reduceLE, Int.reduceAdd, Int.reduceSub, Int.reduceMul, kAgg, scD, List.all_cons, List.all_nil]
    refine CallX.mk works_ok rfl ?_
    simp only [nums, rowsS, nodes, zv, bv, sv, nv, uv, bytesD, VL, VB, BEq.rfl, V1, V2, V3, V4, V5, V6, V7, V8, V9, V10, V11, V12, V13, V14, VE, Nat.reduceBEq, Nat.reduceAdd, Nat.reduceSub, Nat.reduceMul, Nat.reduceLeDiff, Nat.reduceLT, Nat.reduceEqDiff, Int.reduceBEq, Int.reduceBNe, Int.reduceLT, Int.reduceLE, Int.reduceAdd, Int.reduceSub, Int.reduceMul, kAgg, scD, List.all_cons, List.all_nil]
  · have w1 : Int.tmod (c : Int) 6 = 2 := w1.trans rfl
    have w2 : IntKind.i64.wrap (-2) = -2 := wrap_in (by omega) (by omega)
    have hX : [[[D.sc (.int .i64 1073741824)], [D.sc (.int .i64 1073741824)]], [[D.sc (.int .i64 (-2))], [D.sc (.int .i64 1073741824)]]] = rowsN [[1073741824, 1073741824], [-2, 1073741824]] := rfl
    have hce := hchk [[1073741824, 1073741824], [-2, 1073741824]] (List.replicate q 1) (by decide)
    obtain ⟨hb1, hb2, hb3⟩ := great_bad hce (by omega)
    simp only [w1, w2, List.getD_cons_zero, List.getD_cons_succ, List.set_cons_zero, List.set_cons_succ, List.map_cons, List.map_nil, List.length_cons, List.length_nil, splice, Int.reduceToNat, Nat.reduceLT, Nat.reduceLeDiff, nums, rowsS, nodes, zv, bv, sv, nv, uv, bytesD, VL, VB, BEq.rfl, V1, V2, V3, V4, V5, V6, V7, V8, V9, V10, V11, V12, V13, V14, VE, Nat.reduceBEq, Nat.reduceAdd, Nat.reduceSub, Nat.reduceMul, Nat.reduceLeDiff, Nat.reduceLT, Nat.reduceEqDiff, Int.reduceBEq, Int.reduceBNe, Int.reduceLT, Int.reduceLE, Int.reduceAdd, Int.reduceSub, Int.reduceMul, kAgg, scD, List.all_cons, List.all_nil]
    refine ⟨by decide, ?_⟩
    simp only [hX, rowsN_D, nums, rowsS, nodes, zv, bv, sv, nv, uv, bytesD, VL, VB, BEq.rfl, V1, V2, V3, V4, V5, V6, V7, V8, V9, V10, V11, V12, V13, V14, VE, Nat.reduceBEq, Nat.reduceAdd, Nat.reduceSub, Nat.reduceMul, Nat.reduceLeDiff, Nat.reduceLT, Nat.reduceEqDiff, Int.reduceBEq, Int.reduceBNe, Int.reduceLT, Int.reduceLE, Int.reduceAdd, Int.reduceSub, Int.reduceMul, kAgg, scD, List.all_cons, List.all_nil]
    refine CallX.mk (Min_ok T [[1073741824, 1073741824], [-2, 1073741824]] (List.replicate q 1) hsm) rfl ?_
    simp only [hX, rowsN_D, nums, rowsS, nodes, zv, bv, sv, nv, uv, bytesD, VL, VB, BEq.rfl, V1, V2, V3, V4, V5, V6, V7, V8, V9, V10, V11, V12, V13, V14, VE, Nat.reduceBEq, Nat.reduceAdd, Nat.reduceSub, Nat.reduceMul, Nat.reduceLeDiff, Nat.reduceLT, Nat.reduceEqDiff, Int.reduceBEq, Int.reduceBNe, Int.reduceLT, Int.reduceLE, Int.reduceAdd, Int.reduceSub, Int.reduceMul, kAgg, scD, List.all_cons, List.all_nil]
    refine CallX.mkF (Best_okF T [[1073741824, 1073741824], [-2, 1073741824]] (List.replicate q 1) hsm) rfl (sc_res _ _) ?_
    simp only [hX, rowsN_D, nums, rowsS, nodes, zv, bv, sv, nv, uv, bytesD, VL, VB, BEq.rfl, V1, V2, V3, V4, V5, V6, V7, V8, V9, V10, V11, V12, V13, V14, VE, Nat.reduceBEq, Nat.reduceAdd, Nat.reduceSub, Nat.reduceMul, Nat.reduceLeDiff, Nat.reduceLT, Nat.reduceEqDiff, Int.reduceBEq, Int.reduceBNe, Int.reduceLT, Int.reduceLE, Int.reduceAdd, Int.reduceSub, Int.reduceMul, kAgg, scD, List.all_cons, List.all_nil]
    refine CallX.mk (Check_ok T [[1073741824, 1073741824], [-2, 1073741824]] (List.replicate q 1) hsm) rfl ?_
    have z0 : ((0 : Nat) : Int) = 0 := rfl
    simp only [hce, hb1, hb2, hb3, z0, int_beq, decide_true, nums, rowsS, nodes, zv, bv, sv, nv, uv, bytesD, VL, VB, BEq.rfl, V1, V2, V3, V4, V5, V6, V7, V8, V9, V10, V11, V12, V13, V14, VE, Nat.reduceBEq, Nat.reduceAdd, Nat.reduceSub, Nat.reduceMul, Nat.reduceLeDiff, Nat.reduceLT, Nat.reduceEqDiff, Int.reduceBEq, Int.reduceBNe, Int.reduceLT, Int.reduceLE, Int.reduceAdd, Int.reduceSub, Int.reduceMul, kAgg, scD, List.all_cons, List.all_nil]
    refine CallX.mk works_ok rfl ?_
    simp only [nums, rowsS, nodes, zv, bv, sv, nv, uv, bytesD, VL, VB, BEq.rfl, V1, V2, V3, V4, V5, V6, V7, V8, V9, V10, V11, V12, V13, V14, VE, Nat.reduceBEq, Nat.reduceAdd, Nat.reduceSub, Nat.reduceMul, Nat.reduceLeDiff, Nat.reduceLT, Nat.reduceEqDiff, Int.reduceBEq, Int.reduceBNe, Int.reduceLT, Int.reduceLE, Int.reduceAdd, Int.reduceSub, Int.reduceMul, kAgg, scD, List.all_cons, List.all_nil]
  · have w1 : Int.tmod (c : Int) 6 = 3 := w1.trans rfl
    have hX : [[[D.sc (.int .i64 1073741824)], [D.sc (.int .i64 1073741824)]], [[D.sc (.int .i64 (-1))]]] = rowsN [[1073741824, 1073741824], [-1]] := rfl
    have hce := hchk [[1073741824, 1073741824], [-1]] (List.replicate q 1) (by decide)
    obtain ⟨hb1, hb2, hb3⟩ := great_bad hce (by omega)
    have z0 : ((0 : Nat) : Int) = 0 := rfl
    simp only [w1, z0, List.getD_cons_zero, List.getD_cons_succ, List.set_cons_zero, List.set_cons_succ, List.map_cons, List.map_nil, List.length_cons, List.length_nil, splice, Int.reduceToNat, Nat.reduceLT, Nat.reduceLeDiff, nums, rowsS, nodes, zv, bv, sv, nv, uv, bytesD, VL, VB, BEq.rfl, V1, V2, V3, V4, V5, V6, V7, V8, V9, V10, V11, V12, V13, V14, VE, Nat.reduceBEq, Nat.reduceAdd, Nat.reduceSub, Nat.reduceMul, Nat.reduceLeDiff, Nat.reduceLT, Nat.reduceEqDiff, Int.reduceBEq, Int.reduceBNe, Int.reduceLT, Int.reduceLE, Int.reduceAdd, Int.reduceSub, Int.reduceMul, kAgg, scD, List.all_cons, List.all_nil]
    refine ⟨by decide, by decide, ?_⟩
    simp only [hX, rowsN_D, nums, rowsS, nodes, zv, bv, sv, nv, uv, bytesD, VL, VB, BEq.rfl, V1, V2, V3, V4, V5, V6, V7, V8, V9, V10, V11, V12, V13, V14, VE, Nat.reduceBEq, Nat.reduceAdd, Nat.reduceSub, Nat.reduceMul, Nat.reduceLeDiff, Nat.reduceLT, Nat.reduceEqDiff, Int.reduceBEq, Int.reduceBNe, Int.reduceLT, Int.reduceLE, Int.reduceAdd, Int.reduceSub, Int.reduceMul, kAgg, scD, List.all_cons, List.all_nil]
    refine CallX.mk (Min_ok T [[1073741824, 1073741824], [-1]] (List.replicate q 1) hsm) rfl ?_
    simp only [hX, rowsN_D, nums, rowsS, nodes, zv, bv, sv, nv, uv, bytesD, VL, VB, BEq.rfl, V1, V2, V3, V4, V5, V6, V7, V8, V9, V10, V11, V12, V13, V14, VE, Nat.reduceBEq, Nat.reduceAdd, Nat.reduceSub, Nat.reduceMul, Nat.reduceLeDiff, Nat.reduceLT, Nat.reduceEqDiff, Int.reduceBEq, Int.reduceBNe, Int.reduceLT, Int.reduceLE, Int.reduceAdd, Int.reduceSub, Int.reduceMul, kAgg, scD, List.all_cons, List.all_nil]
    refine CallX.mkF (Best_okF T [[1073741824, 1073741824], [-1]] (List.replicate q 1) hsm) rfl (sc_res _ _) ?_
    simp only [hX, rowsN_D, nums, rowsS, nodes, zv, bv, sv, nv, uv, bytesD, VL, VB, BEq.rfl, V1, V2, V3, V4, V5, V6, V7, V8, V9, V10, V11, V12, V13, V14, VE, Nat.reduceBEq, Nat.reduceAdd, Nat.reduceSub, Nat.reduceMul, Nat.reduceLeDiff, Nat.reduceLT, Nat.reduceEqDiff, Int.reduceBEq, Int.reduceBNe, Int.reduceLT, Int.reduceLE, Int.reduceAdd, Int.reduceSub, Int.reduceMul, kAgg, scD, List.all_cons, List.all_nil]
    refine CallX.mk (Check_ok T [[1073741824, 1073741824], [-1]] (List.replicate q 1) hsm) rfl ?_
    have z0 : ((0 : Nat) : Int) = 0 := rfl
    simp only [hce, hb1, hb2, hb3, z0, int_beq, decide_true, nums, rowsS, nodes, zv, bv, sv, nv, uv, bytesD, VL, VB, BEq.rfl, V1, V2, V3, V4, V5, V6, V7, V8, V9, V10, V11, V12, V13, V14, VE, Nat.reduceBEq, Nat.reduceAdd, Nat.reduceSub, Nat.reduceMul, Nat.reduceLeDiff, Nat.reduceLT, Nat.reduceEqDiff, Int.reduceBEq, Int.reduceBNe, Int.reduceLT, Int.reduceLE, Int.reduceAdd, Int.reduceSub, Int.reduceMul, kAgg, scD, List.all_cons, List.all_nil]
    refine CallX.mk works_ok rfl ?_
    simp only [nums, rowsS, nodes, zv, bv, sv, nv, uv, bytesD, VL, VB, BEq.rfl, V1, V2, V3, V4, V5, V6, V7, V8, V9, V10, V11, V12, V13, V14, VE, Nat.reduceBEq, Nat.reduceAdd, Nat.reduceSub, Nat.reduceMul, Nat.reduceLeDiff, Nat.reduceLT, Nat.reduceEqDiff, Int.reduceBEq, Int.reduceBNe, Int.reduceLT, Int.reduceLE, Int.reduceAdd, Int.reduceSub, Int.reduceMul, kAgg, scD, List.all_cons, List.all_nil]
  · have w1 : Int.tmod (c : Int) 6 = 4 := w1.trans rfl
    simp only [w1, List.length_replicate, List.getD_cons_zero, List.getD_cons_succ, List.set_cons_zero, List.set_cons_succ, List.map_cons, List.map_nil, List.length_cons, List.length_nil, splice, Int.reduceToNat, Nat.reduceLT, Nat.reduceLeDiff, nums, rowsS, nodes, zv, bv, sv, nv, uv, bytesD, VL, VB, BEq.rfl, V1, V2, V3, V4, V5, V6, V7, V8, V9, V10, V11, V12, V13, V14, VE, Nat.reduceBEq, Nat.reduceAdd, Nat.reduceSub, Nat.reduceMul, Nat.reduceLeDiff, Nat.reduceLT, Nat.reduceEqDiff, Int.reduceBEq, Int.reduceBNe, Int.reduceLT, Int.reduceLE, Int.reduceAdd, Int.reduceSub, Int.reduceMul, kAgg, scD, List.all_cons, List.all_nil]
    refine ⟨by decide, ?_⟩
    refine LoopVC.mk (Y := Nat) (fun i => i ≤ 13) (fun i => ⟨[(5, .c (nodes T)), (7, .osl 83 0), (8, .osl 28 0), (9, zv 2), (85, nv 13), (86, nv i)], [(28, .arr 3 0 ((List.replicate q 1).map num)), (83, .nest 29 0 0 none (rowsN (tallG i)))]⟩) (fun i => 13 - i) ⟨0, Enter.id ?_, by omega⟩ ?_
    · have e0 : List.replicate 13 [] = rowsN (tallG 0) := rfl
      simp only [e0, nums, rowsS, nodes, zv, bv, sv, nv, uv, bytesD, VL, VB, BEq.rfl, V1, V2, V3, V4, V5, V6, V7, V8, V9, V10, V11, V12, V13, V14, VE, Nat.reduceBEq, Nat.reduceAdd, Nat.reduceSub, Nat.reduceMul, Nat.reduceLeDiff, Nat.reduceLT, Nat.reduceEqDiff, Int.reduceBEq, Int.reduceBNe, Int.reduceLT, Int.reduceLE, Int.reduceAdd, Int.reduceSub, Int.reduceMul, kAgg, scD, List.all_cons, List.all_nil]
      rfl
    intro i hi
    simp only [lt_nat, nums, rowsS, nodes, zv, bv, sv, nv, uv, bytesD, VL, VB, BEq.rfl, V1, V2, V3, V4, V5, V6, V7, V8, V9, V10, V11, V12, V13, V14, VE, Nat.reduceBEq, Nat.reduceAdd, Nat.reduceSub, Nat.reduceMul, Nat.reduceLeDiff, Nat.reduceLT, Nat.reduceEqDiff, Int.reduceBEq, Int.reduceBNe, Int.reduceLT, Int.reduceLE, Int.reduceAdd, Int.reduceSub, Int.reduceMul, kAgg, scD, List.all_cons, List.all_nil]
    refine guardB.mk (fun h => ?_) (fun h => ?_)
    · have hi' : i < 13 := by simpa using h
      clear h
      have hset := tallG_set hi'
      have hlen := tallG_len hi
      have z13 : List.replicate 13 [D.sc (.int .i64 0)] = (List.replicate 13 (0 : Int)).map num := rfl
      simp only [Int.reduceToNat, z13, hset, hlen, wrap_nat (k := i) (by omega), nums, rowsS, nodes, zv, bv, sv, nv, uv, bytesD, VL, VB, BEq.rfl, V1, V2, V3, V4, V5, V6, V7, V8, V9, V10, V11, V12, V13, V14, VE, Nat.reduceBEq, Nat.reduceAdd, Nat.reduceSub, Nat.reduceMul, Nat.reduceLeDiff, Nat.reduceLT, Nat.reduceEqDiff, Int.reduceBEq, Int.reduceBNe, Int.reduceLT, Int.reduceLE, Int.reduceAdd, Int.reduceSub, Int.reduceMul, kAgg, scD, List.all_cons, List.all_nil]
      refine ⟨Int.natCast_nonneg i, hi', hi', i + 1, Enter.id ?_, by omega, by show 13 - (i + 1) < 13 - i; omega⟩
      simp only [nums, rowsS, nodes, zv, bv, sv, nv, uv, bytesD, VL, VB, BEq.rfl, V1, V2, V3, V4, V5, V6, V7, V8, V9, V10, V11, V12, V13, V14, VE, Nat.reduceBEq, Nat.reduceAdd, Nat.reduceSub, Nat.reduceMul, Nat.reduceLeDiff, Nat.reduceLT, Nat.reduceEqDiff, Int.reduceBEq, Int.reduceBNe, Int.reduceLT, Int.reduceLE, Int.reduceAdd, Int.reduceSub, Int.reduceMul, kAgg, scD, List.all_cons, List.all_nil]
    have hi' : i = 13 := by
      have : ¬ i < 13 := by simpa using h
      omega
    subst hi'
    clear h
    have hX : rowsN (tallG 13) = rowsN (tallG 13) := rfl
    have hce := hchk (tallG 13) (List.replicate q 1) (by decide)
    obtain ⟨hb1, hb2, hb3⟩ := great_bad hce (by omega)
    simp only [hX, rowsN_D, nums, rowsS, nodes, zv, bv, sv, nv, uv, bytesD, VL, VB, BEq.rfl, V1, V2, V3, V4, V5, V6, V7, V8, V9, V10, V11, V12, V13, V14, VE, Nat.reduceBEq, Nat.reduceAdd, Nat.reduceSub, Nat.reduceMul, Nat.reduceLeDiff, Nat.reduceLT, Nat.reduceEqDiff, Int.reduceBEq, Int.reduceBNe, Int.reduceLT, Int.reduceLE, Int.reduceAdd, Int.reduceSub, Int.reduceMul, kAgg, scD, List.all_cons, List.all_nil]
    refine CallX.mk (Min_ok T (tallG 13) (List.replicate q 1) hsm) rfl ?_
    simp only [hX, rowsN_D, nums, rowsS, nodes, zv, bv, sv, nv, uv, bytesD, VL, VB, BEq.rfl, V1, V2, V3, V4, V5, V6, V7, V8, V9, V10, V11, V12, V13, V14, VE, Nat.reduceBEq, Nat.reduceAdd, Nat.reduceSub, Nat.reduceMul, Nat.reduceLeDiff, Nat.reduceLT, Nat.reduceEqDiff, Int.reduceBEq, Int.reduceBNe, Int.reduceLT, Int.reduceLE, Int.reduceAdd, Int.reduceSub, Int.reduceMul, kAgg, scD, List.all_cons, List.all_nil]
    refine CallX.mkF (Best_okF T (tallG 13) (List.replicate q 1) hsm) rfl (sc_res _ _) ?_
    simp only [hX, rowsN_D, nums, rowsS, nodes, zv, bv, sv, nv, uv, bytesD, VL, VB, BEq.rfl, V1, V2, V3, V4, V5, V6, V7, V8, V9, V10, V11, V12, V13, V14, VE, Nat.reduceBEq, Nat.reduceAdd, Nat.reduceSub, Nat.reduceMul, Nat.reduceLeDiff, Nat.reduceLT, Nat.reduceEqDiff, Int.reduceBEq, Int.reduceBNe, Int.reduceLT, Int.reduceLE, Int.reduceAdd, Int.reduceSub, Int.reduceMul, kAgg, scD, List.all_cons, List.all_nil]
    refine CallX.mk (Check_ok T (tallG 13) (List.replicate q 1) hsm) rfl ?_
    have z0 : ((0 : Nat) : Int) = 0 := rfl
    simp only [hce, hb1, hb2, hb3, z0, int_beq, decide_true, nums, rowsS, nodes, zv, bv, sv, nv, uv, bytesD, VL, VB, BEq.rfl, V1, V2, V3, V4, V5, V6, V7, V8, V9, V10, V11, V12, V13, V14, VE, Nat.reduceBEq, Nat.reduceAdd, Nat.reduceSub, Nat.reduceMul, Nat.reduceLeDiff, Nat.reduceLT, Nat.reduceEqDiff, Int.reduceBEq, Int.reduceBNe, Int.reduceLT, Int.reduceLE, Int.reduceAdd, Int.reduceSub, Int.reduceMul, kAgg, scD, List.all_cons, List.all_nil]
    refine CallX.mk works_ok rfl ?_
    simp only [nums, rowsS, nodes, zv, bv, sv, nv, uv, bytesD, VL, VB, BEq.rfl, V1, V2, V3, V4, V5, V6, V7, V8, V9, V10, V11, V12, V13, V14, VE, Nat.reduceBEq, Nat.reduceAdd, Nat.reduceSub, Nat.reduceMul, Nat.reduceLeDiff, Nat.reduceLT, Nat.reduceEqDiff, Int.reduceBEq, Int.reduceBNe, Int.reduceLT, Int.reduceLE, Int.reduceAdd, Int.reduceSub, Int.reduceMul, kAgg, scD, List.all_cons, List.all_nil]
  · have w1 : Int.tmod (c : Int) 6 = 5 := w1.trans rfl
    have hX : [[[D.sc (.int .i64 1073741824)], [D.sc (.int .i64 1073741824)]], [[D.sc (.int .i64 (-1))], [D.sc (.int .i64 1073741824)]]] = rowsN [[1073741824, 1073741824], [-1, 1073741824]] := rfl
    have hset : (List.map num (List.replicate q (1 : Int))).set 0 [.sc (.int .i64 2)] = ((List.replicate q (1 : Int)).set 0 2).map num := by rw [List.map_set]; rfl
    have hone : ((List.map num (List.replicate q (1 : Int))).getD 0 []).length = 1 := by rw [getD_num _ 0 (by simpa using hlp)]; rfl
    have hce := hchk3 (by omega)
    obtain ⟨hb1, hb2, hb3⟩ := great_bad hce (by omega)
    obtain ⟨V, hV⟩ : ∃ V, (List.replicate q (1 : Int)).set 0 2 = V := ⟨_, rfl⟩
    rw [hV] at hset hb1 hb2 hb3 hce
    simp only [w1, hone, drop1_num, hset, List.length_replicate, List.getD_cons_zero, List.getD_cons_succ, List.set_cons_zero, List.set_cons_succ, List.map_cons, List.map_nil, List.length_cons, List.length_nil, splice, Int.reduceToNat, Nat.reduceLT, Nat.reduceLeDiff, nums, rowsS, nodes, zv, bv, sv, nv, uv, bytesD, VL, VB, BEq.rfl, V1, V2, V3, V4, V5, V6, V7, V8, V9, V10, V11, V12, V13, V14, VE, Nat.reduceBEq, Nat.reduceAdd, Nat.reduceSub, Nat.reduceMul, Nat.reduceLeDiff, Nat.reduceLT, Nat.reduceEqDiff, Int.reduceBEq, Int.reduceBNe, Int.reduceLT, Int.reduceLE, Int.reduceAdd, Int.reduceSub, Int.reduceMul, kAgg, scD, List.all_cons, List.all_nil]
    refine ⟨by decide, hlp, hlp, ?_⟩
    simp only [hX, rowsN_D, nums, rowsS, nodes, zv, bv, sv, nv, uv, bytesD, VL, VB, BEq.rfl, V1, V2, V3, V4, V5, V6, V7, V8, V9, V10, V11, V12, V13, V14, VE, Nat.reduceBEq, Nat.reduceAdd, Nat.reduceSub, Nat.reduceMul, Nat.reduceLeDiff, Nat.reduceLT, Nat.reduceEqDiff, Int.reduceBEq, Int.reduceBNe, Int.reduceLT, Int.reduceLE, Int.reduceAdd, Int.reduceSub, Int.reduceMul, kAgg, scD, List.all_cons, List.all_nil]
    refine CallX.mk (Min_ok T [[1073741824, 1073741824], [-1, 1073741824]] V hsm) rfl ?_
    simp only [hX, rowsN_D, nums, rowsS, nodes, zv, bv, sv, nv, uv, bytesD, VL, VB, BEq.rfl, V1, V2, V3, V4, V5, V6, V7, V8, V9, V10, V11, V12, V13, V14, VE, Nat.reduceBEq, Nat.reduceAdd, Nat.reduceSub, Nat.reduceMul, Nat.reduceLeDiff, Nat.reduceLT, Nat.reduceEqDiff, Int.reduceBEq, Int.reduceBNe, Int.reduceLT, Int.reduceLE, Int.reduceAdd, Int.reduceSub, Int.reduceMul, kAgg, scD, List.all_cons, List.all_nil]
    refine CallX.mkF (Best_okF T [[1073741824, 1073741824], [-1, 1073741824]] V hsm) rfl (sc_res _ _) ?_
    simp only [hX, rowsN_D, nums, rowsS, nodes, zv, bv, sv, nv, uv, bytesD, VL, VB, BEq.rfl, V1, V2, V3, V4, V5, V6, V7, V8, V9, V10, V11, V12, V13, V14, VE, Nat.reduceBEq, Nat.reduceAdd, Nat.reduceSub, Nat.reduceMul, Nat.reduceLeDiff, Nat.reduceLT, Nat.reduceEqDiff, Int.reduceBEq, Int.reduceBNe, Int.reduceLT, Int.reduceLE, Int.reduceAdd, Int.reduceSub, Int.reduceMul, kAgg, scD, List.all_cons, List.all_nil]
    refine CallX.mk (Check_ok T [[1073741824, 1073741824], [-1, 1073741824]] V hsm) rfl ?_
    have z0 : ((0 : Nat) : Int) = 0 := rfl
    simp only [hce, hb1, hb2, hb3, z0, int_beq, decide_true, nums, rowsS, nodes, zv, bv, sv, nv, uv, bytesD, VL, VB, BEq.rfl, V1, V2, V3, V4, V5, V6, V7, V8, V9, V10, V11, V12, V13, V14, VE, Nat.reduceBEq, Nat.reduceAdd, Nat.reduceSub, Nat.reduceMul, Nat.reduceLeDiff, Nat.reduceLT, Nat.reduceEqDiff, Int.reduceBEq, Int.reduceBNe, Int.reduceLT, Int.reduceLE, Int.reduceAdd, Int.reduceSub, Int.reduceMul, kAgg, scD, List.all_cons, List.all_nil]
    refine CallX.mk works_ok rfl ?_
    simp only [nums, rowsS, nodes, zv, bv, sv, nv, uv, bytesD, VL, VB, BEq.rfl, V1, V2, V3, V4, V5, V6, V7, V8, V9, V10, V11, V12, V13, V14, VE, Nat.reduceBEq, Nat.reduceAdd, Nat.reduceSub, Nat.reduceMul, Nat.reduceLeDiff, Nat.reduceLT, Nat.reduceEqDiff, Int.reduceBEq, Int.reduceBNe, Int.reduceLT, Int.reduceLE, Int.reduceAdd, Int.reduceSub, Int.reduceMul, kAgg, scD, List.all_cons, List.all_nil]

end Go.Cp
namespace Go.Proofs.Ytfalggfambgkeaa
open Go Go.Proofs Go.RowKit Go.ChangeShapes Go.WideShapes Go.ChangeAt Go.Vx Go.Cp

theorem sankoffGreat_lifted (os : Os) (started : os.Started) (H : Type) (enc : TypeId × Value → H) :
    ReturnsInHanded {} Try.checked os 10 .any (Rows.sankoffGreatSpec.pre6 enc Try.prog Try.f10 Rows.sankoffGreatRow.domain false) (Rows.sankoffGreatSpec.post enc Try.prog Try.f10 false true false false) := by
  refine law_lifted (m := 8) (tb := 4) os started H enc own laid (by kernel_rfl) Try.func10 rfl Try.underlying4 rfl ?_ (by kernel_rfl) (by kernel_rfl)
    (ChangeSpec.witness6 (enc := enc) (C := Try.checked) false ⟨#[], #[.slice none 0 0, .int .u8 0], []⟩ 8 (by kernel_rfl) (by kernel_rfl) (by kernel_rfl) (by kernel_rfl)) ?_
  · rw [Try.params10]
    intro ds hd
    match ds, hd with
    | [d1, d2], _ => exact ⟨rfl, rfl, rfl⟩
  · rw [Try.params10]
    intro dss h
    obtain ⟨x1, x2, rfl, h1, h2⟩ := typedL2 h
    obtain ⟨ps, rfl, hp, hpl⟩ := typed_bytes (m := 6) h1
    obtain ⟨c, rfl, hc⟩ := typed_byte (m := 7) h2
    simp only [argsAV, argAV, Try.underlying22, Try.underlying5]
    exact great_law ps c hp hpl hc

theorem sankoffGreat_holds : Rows.SankoffGreatSaid :=
  OpenClaim.holds_of_wide 10 Try.f10 rfl rfl rfl rfl rfl rfl rfl ⟨rfl, rfl, rfl, rfl, rfl⟩ rfl rfl rfl rfl rfl (by kernel_rfl) Try.func10 (by kernel_rfl)
    (of_decide_eq_true (by kernel_rfl)) (by unfold Func.isWrapper; first | (rw [if_pos (by decide +kernel)]; kernel_rfl) | (rw [if_neg (by decide +kernel)]; exact ⟨rfl, rfl⟩))
    (fun os started H enc _ => sankoffGreat_lifted os started H enc)
#print axioms sankoffGreat_holds

end Go.Proofs.Ytfalggfambgkeaa
