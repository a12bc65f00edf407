/-
  SankoffOver returns true for every input: if nothing costs anything, there are as many cheapest assignments as assignments; if that does not fit, it is refused. Conditions: none.
-/
import Derived.Test.YtfalggfambgkeaaMN
set_option linter.unusedVariables false
set_option linter.unusedSimpArgs false
set_option maxHeartbeats 8000000
set_option maxRecDepth 100000
namespace Go.Cp
open Go Go.Proofs Go.Vx

def zeroT (n i : Nat) : List (List Int) := List.replicate i (List.replicate n 0)
theorem zeroT_succ (n i : Nat) : rowsN (zeroT n i) ++ [List.replicate n [.sc (.int .i64 0)]] = rowsN (zeroT n (i + 1)) := by
  simp [rowsN, zeroT, List.replicate_succ', num]
theorem zeroT_len (n i : Nat) : (rowsN (zeroT n i)).length = i := by simp [rowsN, zeroT]
theorem zeroT_cell {n i a b : Nat} (ha : a < i) (hb : b < n) : cellAt (zeroT n i) a b = 0 := by simp [cellAt, zeroT, List.getD, ha, hb]
theorem zeroT_ok {n : Nat} (h0 : 0 < n) (h1 : n ≤ 12) : okM (zeroT n n) = true := by
  simp only [okM, Bool.and_eq_true, decide_eq_true_eq, List.all_eq_true]
  have hl : (zeroT n n).length = n := by simp [zeroT]
  refine ⟨by omega, by omega, fun r hr => ?_⟩
  have hr := List.eq_of_mem_replicate hr
  subst hr
  simp only [okRow, Bool.and_eq_true, decide_eq_true_eq, List.all_eq_true]
  refine ⟨by rw [hl]; simp, fun x hx => ?_⟩
  rw [List.eq_of_mem_replicate hx]; rfl

/-- one more factor -/
theorem fits_step {n j : Nat} (hn : 0 < n) : (decide (n ^ j < 9223372036854775808) && (decide (n ^ j % 18446744073709551616 * n / 18446744073709551616 = 0) && decide (n ^ j % 18446744073709551616 * n % 18446744073709551616 < 9223372036854775808))) = decide (n ^ (j + 1) < 9223372036854775808) := by
  have hp : n ^ j ≤ n ^ (j + 1) := Nat.pow_le_pow_right hn (by omega)
  have e : n ^ j * n = n ^ (j + 1) := (Nat.pow_succ ..).symm
  by_cases h : n ^ j < 9223372036854775808
  · rw [decide_eq_true h, Bool.true_and, Nat.mod_eq_of_lt (show n ^ j < 18446744073709551616 by omega), e]
    rw [Bool.eq_iff_iff]
    simp only [Bool.and_eq_true, decide_eq_true_eq]
    omega
  · rw [decide_eq_false h, Bool.false_and, decide_eq_false (by omega)]
theorem pow_step (n j : Nat) : n ^ j % 18446744073709551616 * n % 18446744073709551616 = n ^ (j + 1) % 18446744073709551616 := by
  rw [Nat.pow_succ, Nat.mod_mul_mod]

theorem over_law (ps : List Nat) (c : Nat) (hp : ∀ i, ps.getD i 0 < 256) (hpl : ps.length ≤ 9223372036854775807) (hc : c < 256) : Ok Try.prog E 9 [.c (bytesD ps), .c (.sc (.int .u8 c))] (bv true) := by
  refine ok_of_vc (L := []) (ts := [4]) envOK mixed Try.func9 rfl (by kernel_rfl) rfl (by kernel_rfl) rfl fun hl => ?_
  obtain ⟨n, hn⟩ : ∃ n, 1 + c % 12 = n := ⟨_, rfl⟩
  have hn0 : 0 < n := by omega
  have hn12 : n ≤ 12 := by omega
  have w1 : IntKind.i64.wrap (c : Int) = (c : Int) := wrap_in (by omega) (by omega)
  have w2 : Int.tmod (c : Int) 12 = ((c % 12 : Nat) : Int) := tmodN c 12
  have w3 : IntKind.i64.wrap (1 + ((c % 12 : Nat) : Int)) = (n : Int) := by rw [wrap_in (by omega) (by omega)]; omega
  simp only [Try.f9, w1, w2, w3, nums, rowsS, nodes, zv, bv, sv, nv, uv, bytesD, VL, VB, BEq.rfl, V1, V2, V3, V4, V5, V6, V7, V8, V9, V10, V11, V12, V13, V14, VE, Nat.reduceBEq, Nat.reduceAdd, Nat.reduceSub, Nat.reduceMul, Nat.reduceLeDiff, Nat.reduceLT, Nat.reduceEqDiff, Int.reduceBEq, Int.reduceBNe, Int.reduceLT, Int.reduceLE, Int.reduceAdd, Int.reduceSub, Int.reduceMul, kAgg, scD, List.all_cons, List.all_nil]
  refine ⟨by decide, ?_⟩
  refine CallX.mk (grown_ok ps 62 (by omega) hp hpl) rfl ?_
  have hll := leaves_len (treeD ps)
  have hnl : (treeD ps).length = min ps.length 62 + 1 := grownTo_len ps _
  have hsm := treeD_small ps
  have hck : checkE (treeD ps) (zeroT n n) (List.replicate (leavesOf (treeD ps)).length (-1)) = 0 :=
    check_of (treeD_ok ps) (zeroT_ok hn0 hn12) (by simp) fun k hk => by
      rw [List.length_replicate] at hk
      rw [rep_at hk]
      have : (zeroT n n).length = n := by simp [zeroT]
      omega
  have hz : Zero (zeroT n n) (n - 1) := ⟨by simp [zeroT]; omega, fun a b ha hb => zeroT_cell (by omega) (by omega)⟩
  obtain ⟨hov1, hov2⟩ := over_plain hz hck
  rw [show n - 1 + 1 = n by omega] at hov2
  obtain ⟨T, hT⟩ : ∃ T, treeD ps = T := ⟨_, rfl⟩
  simp only [hT] at hov1 hov2 hsm hll hnl hck ⊢
  obtain ⟨q, hq⟩ : ∃ q, (leavesOf T).length = q := ⟨_, rfl⟩
  rw [hq] at hov1 hov2 hck hll
  simp only [nums, rowsS, nodes, zv, bv, sv, nv, uv, bytesD, VL, VB, BEq.rfl, V1, V2, V3, V4, V5, V6, V7, V8, V9, V10, V11, V12, V13, V14, VE, Nat.reduceBEq, Nat.reduceAdd, Nat.reduceSub, Nat.reduceMul, Nat.reduceLeDiff, Nat.reduceLT, Nat.reduceEqDiff, Int.reduceBEq, Int.reduceBNe, Int.reduceLT, Int.reduceLE, Int.reduceAdd, Int.reduceSub, Int.reduceMul, kAgg, scD, List.all_cons, List.all_nil]
  refine LoopVC.mk (Y := Nat) (fun i => i ≤ n) (fun i => ⟨[(5, nv n), (6, .c (nodes T)), (7, .c (nums (leavesOf T))), (8, .osl 1000 0), (25, nv n), (26, nv i)], [(1000, .nest 29 0 0 none (rowsN (zeroT n i)))]⟩) (fun i => n - i) ⟨0, Enter.mk [(8, (1000, 100029))] [] [] ?_, by omega⟩ ?_
  · simp only [nums, rowsS, nodes, zv, bv, sv, nv, uv, bytesD, VL, VB, BEq.rfl, V1, V2, V3, V4, V5, V6, V7, V8, V9, V10, V11, V12, V13, V14, VE, Nat.reduceBEq, Nat.reduceAdd, Nat.reduceSub, Nat.reduceMul, Nat.reduceLeDiff, Nat.reduceLT, Nat.reduceEqDiff, Int.reduceBEq, Int.reduceBNe, Int.reduceLT, Int.reduceLE, Int.reduceAdd, Int.reduceSub, Int.reduceMul, kAgg, scD, List.all_cons, List.all_nil]
    first | exact ⟨⟨rfl, rfl⟩, rfl⟩ | exact ⟨⟨rfl, rfl⟩, rfl, rfl⟩
  intro i hi
  simp only [lt_nat, nums, rowsS, nodes, zv, bv, sv, nv, uv, bytesD, VL, VB, BEq.rfl, V1, V2, V3, V4, V5, V6, V7, V8, V9, V10, V11, V12, V13, V14, VE, Nat.reduceBEq, Nat.reduceAdd, Nat.reduceSub, Nat.reduceMul, Nat.reduceLeDiff, Nat.reduceLT, Nat.reduceEqDiff, Int.reduceBEq, Int.reduceBNe, Int.reduceLT, Int.reduceLE, Int.reduceAdd, Int.reduceSub, Int.reduceMul, kAgg, scD, List.all_cons, List.all_nil]
  refine guardB.mk (fun h => ?_) (fun h => ?_)
  · have hi' : i < n := by simpa using h
    clear h
    have hzl := zeroT_len n i
    have hzs := zeroT_succ n i
    simp only [hzs, hzl, wrap_nat (k := i) (by omega), nums, rowsS, nodes, zv, bv, sv, nv, uv, bytesD, VL, VB, BEq.rfl, V1, V2, V3, V4, V5, V6, V7, V8, V9, V10, V11, V12, V13, V14, VE, Nat.reduceBEq, Nat.reduceAdd, Nat.reduceSub, Nat.reduceMul, Nat.reduceLeDiff, Nat.reduceLT, Nat.reduceEqDiff, Int.reduceBEq, Int.reduceBNe, Int.reduceLT, Int.reduceLE, Int.reduceAdd, Int.reduceSub, Int.reduceMul, kAgg, scD, List.all_cons, List.all_nil]
    refine ⟨⟨Int.natCast_nonneg n, by omega⟩, by omega, i + 1, Enter.id ?_, by omega, by show n - (i + 1) < n - i; omega⟩
    simp only [nums, rowsS, nodes, zv, bv, sv, nv, uv, bytesD, VL, VB, BEq.rfl, V1, V2, V3, V4, V5, V6, V7, V8, V9, V10, V11, V12, V13, V14, VE, Nat.reduceBEq, Nat.reduceAdd, Nat.reduceSub, Nat.reduceMul, Nat.reduceLeDiff, Nat.reduceLT, Nat.reduceEqDiff, Int.reduceBEq, Int.reduceBNe, Int.reduceLT, Int.reduceLE, Int.reduceAdd, Int.reduceSub, Int.reduceMul, kAgg, scD, List.all_cons, List.all_nil]
  have hi' : i = n := by
    have : ¬ i < n := by simpa using h
    omega
  subst hi'
  clear h
  have hLl : (nums (leavesOf T)) = .sl ((leavesOf T).map num) := rfl
  simp only [hq, nums, rowsS, nodes, zv, bv, sv, nv, uv, bytesD, VL, VB, BEq.rfl, V1, V2, V3, V4, V5, V6, V7, V8, V9, V10, V11, V12, V13, V14, VE, Nat.reduceBEq, Nat.reduceAdd, Nat.reduceSub, Nat.reduceMul, Nat.reduceLeDiff, Nat.reduceLT, Nat.reduceEqDiff, Int.reduceBEq, Int.reduceBNe, Int.reduceLT, Int.reduceLE, Int.reduceAdd, Int.reduceSub, Int.reduceMul, kAgg, scD, List.all_cons, List.all_nil]
  refine CallX.mk (RepI_ok (-1) q (by omega)) rfl ?_
  simp only [nums, rowsS, nodes, zv, bv, sv, nv, uv, bytesD, VL, VB, BEq.rfl, V1, V2, V3, V4, V5, V6, V7, V8, V9, V10, V11, V12, V13, V14, VE, Nat.reduceBEq, Nat.reduceAdd, Nat.reduceSub, Nat.reduceMul, Nat.reduceLeDiff, Nat.reduceLT, Nat.reduceEqDiff, Int.reduceBEq, Int.reduceBNe, Int.reduceLT, Int.reduceLE, Int.reduceAdd, Int.reduceSub, Int.reduceMul, kAgg, scD, List.all_cons, List.all_nil]
  refine LoopVC.mk (Y := Nat) (fun j => j ≤ T.length) (fun j => ⟨[(5, nv i), (6, .c (nodes T)), (8, .osl 1000 0), (9, .osl 37 0), (10, uv (i ^ j % 18446744073709551616)), (11, bv (decide (i ^ j < 9223372036854775808))), (39, nv T.length), (40, nv j)], [(1000, .nest 29 0 0 none (rowsN (zeroT i i))), (37, .arr 3 0 ((List.replicate q (-1)).map num))]⟩) (fun j => T.length - j) ⟨0, Enter.id ?_, by omega⟩ ?_
  · simp only [Nat.pow_zero, nums, rowsS, nodes, zv, bv, sv, nv, uv, bytesD, VL, VB, BEq.rfl, V1, V2, V3, V4, V5, V6, V7, V8, V9, V10, V11, V12, V13, V14, VE, Nat.reduceBEq, Nat.reduceAdd, Nat.reduceSub, Nat.reduceMul, Nat.reduceLeDiff, Nat.reduceLT, Nat.reduceEqDiff, Int.reduceBEq, Int.reduceBNe, Int.reduceLT, Int.reduceLE, Int.reduceAdd, Int.reduceSub, Int.reduceMul, kAgg, scD, List.all_cons, List.all_nil]
    exact ⟨rfl, rfl⟩
  intro j hj
  simp only [lt_nat, nums, rowsS, nodes, zv, bv, sv, nv, uv, bytesD, VL, VB, BEq.rfl, V1, V2, V3, V4, V5, V6, V7, V8, V9, V10, V11, V12, V13, V14, VE, Nat.reduceBEq, Nat.reduceAdd, Nat.reduceSub, Nat.reduceMul, Nat.reduceLeDiff, Nat.reduceLT, Nat.reduceEqDiff, Int.reduceBEq, Int.reduceBNe, Int.reduceLT, Int.reduceLE, Int.reduceAdd, Int.reduceSub, Int.reduceMul, kAgg, scD, List.all_cons, List.all_nil]
  refine guardB.mk (fun h => ?_) (fun h => ?_)
  · have hj' : j < T.length := by simpa using h
    clear h
    have hfit := fits_step (n := i) (j := j) hn0
    have hpow := pow_step i j
    have w4 : IntKind.u64.wrap (i : Int) = (i : Int) := wraps_u64 _ (by omega) (by omega)
    obtain ⟨x, hx⟩ : ∃ x, i ^ j % 18446744073709551616 = x := ⟨_, rfl⟩
    have hx64 : x < 18446744073709551616 := by rw [← hx]; exact Nat.mod_lt _ (by omega)
    obtain ⟨b, hb⟩ : ∃ b, decide (i ^ j < 9223372036854775808) = b := ⟨_, rfl⟩
    rw [hx, hb] at hfit
    rw [hx] at hpow
    simp only [hx, hb, w4, nums, rowsS, nodes, zv, bv, sv, nv, uv, bytesD, VL, VB, BEq.rfl, V1, V2, V3, V4, V5, V6, V7, V8, V9, V10, V11, V12, V13, V14, VE, Nat.reduceBEq, Nat.reduceAdd, Nat.reduceSub, Nat.reduceMul, Nat.reduceLeDiff, Nat.reduceLT, Nat.reduceEqDiff, Int.reduceBEq, Int.reduceBNe, Int.reduceLT, Int.reduceLE, Int.reduceAdd, Int.reduceSub, Int.reduceMul, kAgg, scD, List.all_cons, List.all_nil]
    refine CallX.mk (Mul64_ok x i hx64 (by omega)) rfl ?_
    obtain ⟨u, hu⟩ : ∃ u, x * i / 18446744073709551616 = u := ⟨_, rfl⟩
    obtain ⟨l, hlo⟩ : ∃ l, x * i % 18446744073709551616 = l := ⟨_, rfl⟩
    rw [hu, hlo] at hfit
    rw [hlo] at hpow
    have e1 : (((u : Nat) : Int) == 0) = decide (u = 0) := by rw [int_beq]; congr 1; exact propext ⟨fun h => by omega, fun h => by omega⟩
    have e2 : decide (((l : Nat) : Int) < 9223372036854775808) = decide (l < 9223372036854775808) := by congr 1; exact propext ⟨fun h => by omega, fun h => by omega⟩
    simp only [hu, hlo, nums, rowsS, nodes, zv, bv, sv, nv, uv, bytesD, VL, VB, BEq.rfl, V1, V2, V3, V4, V5, V6, V7, V8, V9, V10, V11, V12, V13, V14, VE, Nat.reduceBEq, Nat.reduceAdd, Nat.reduceSub, Nat.reduceMul, Nat.reduceLeDiff, Nat.reduceLT, Nat.reduceEqDiff, Int.reduceBEq, Int.reduceBNe, Int.reduceLT, Int.reduceLE, Int.reduceAdd, Int.reduceSub, Int.reduceMul, kAgg, scD, List.all_cons, List.all_nil]
    refine guardB.mk (fun h => ?_) (fun h => ?_)
    · subst h
      simp only [e1, nums, rowsS, nodes, zv, bv, sv, nv, uv, bytesD, VL, VB, BEq.rfl, V1, V2, V3, V4, V5, V6, V7, V8, V9, V10, V11, V12, V13, V14, VE, Nat.reduceBEq, Nat.reduceAdd, Nat.reduceSub, Nat.reduceMul, Nat.reduceLeDiff, Nat.reduceLT, Nat.reduceEqDiff, Int.reduceBEq, Int.reduceBNe, Int.reduceLT, Int.reduceLE, Int.reduceAdd, Int.reduceSub, Int.reduceMul, kAgg, scD, List.all_cons, List.all_nil]
      refine guardB.mk (fun h => ?_) (fun h => ?_)
      · rw [h] at hfit
        simp only [Bool.true_and] at hfit
        simp only [h, e2, nums, rowsS, nodes, zv, bv, sv, nv, uv, bytesD, VL, VB, BEq.rfl, V1, V2, V3, V4, V5, V6, V7, V8, V9, V10, V11, V12, V13, V14, VE, Nat.reduceBEq, Nat.reduceAdd, Nat.reduceSub, Nat.reduceMul, Nat.reduceLeDiff, Nat.reduceLT, Nat.reduceEqDiff, Int.reduceBEq, Int.reduceBNe, Int.reduceLT, Int.reduceLE, Int.reduceAdd, Int.reduceSub, Int.reduceMul, kAgg, scD, List.all_cons, List.all_nil]
        simp only [wrap_nat (k := j) (by omega), nums, rowsS, nodes, zv, bv, sv, nv, uv, bytesD, VL, VB, BEq.rfl, V1, V2, V3, V4, V5, V6, V7, V8, V9, V10, V11, V12, V13, V14, VE, Nat.reduceBEq, Nat.reduceAdd, Nat.reduceSub, Nat.reduceMul, Nat.reduceLeDiff, Nat.reduceLT, Nat.reduceEqDiff, Int.reduceBEq, Int.reduceBNe, Int.reduceLT, Int.reduceLE, Int.reduceAdd, Int.reduceSub, Int.reduceMul, kAgg, scD, List.all_cons, List.all_nil]
        refine ⟨j + 1, Enter.id ?_, by omega, by show T.length - (j + 1) < T.length - j; omega⟩
        simp only [← hfit, ← hpow, nums, rowsS, nodes, zv, bv, sv, nv, uv, bytesD, VL, VB, BEq.rfl, V1, V2, V3, V4, V5, V6, V7, V8, V9, V10, V11, V12, V13, V14, VE, Nat.reduceBEq, Nat.reduceAdd, Nat.reduceSub, Nat.reduceMul, Nat.reduceLeDiff, Nat.reduceLT, Nat.reduceEqDiff, Int.reduceBEq, Int.reduceBNe, Int.reduceLT, Int.reduceLE, Int.reduceAdd, Int.reduceSub, Int.reduceMul, kAgg, scD, List.all_cons, List.all_nil]
      · rw [h] at hfit
        simp only [Bool.false_and, Bool.and_false] at hfit
        simp only [h, e2, nums, rowsS, nodes, zv, bv, sv, nv, uv, bytesD, VL, VB, BEq.rfl, V1, V2, V3, V4, V5, V6, V7, V8, V9, V10, V11, V12, V13, V14, VE, Nat.reduceBEq, Nat.reduceAdd, Nat.reduceSub, Nat.reduceMul, Nat.reduceLeDiff, Nat.reduceLT, Nat.reduceEqDiff, Int.reduceBEq, Int.reduceBNe, Int.reduceLT, Int.reduceLE, Int.reduceAdd, Int.reduceSub, Int.reduceMul, kAgg, scD, List.all_cons, List.all_nil]
        simp only [wrap_nat (k := j) (by omega), nums, rowsS, nodes, zv, bv, sv, nv, uv, bytesD, VL, VB, BEq.rfl, V1, V2, V3, V4, V5, V6, V7, V8, V9, V10, V11, V12, V13, V14, VE, Nat.reduceBEq, Nat.reduceAdd, Nat.reduceSub, Nat.reduceMul, Nat.reduceLeDiff, Nat.reduceLT, Nat.reduceEqDiff, Int.reduceBEq, Int.reduceBNe, Int.reduceLT, Int.reduceLE, Int.reduceAdd, Int.reduceSub, Int.reduceMul, kAgg, scD, List.all_cons, List.all_nil]
        refine ⟨j + 1, Enter.id ?_, by omega, by show T.length - (j + 1) < T.length - j; omega⟩
        simp only [← hfit, ← hpow, nums, rowsS, nodes, zv, bv, sv, nv, uv, bytesD, VL, VB, BEq.rfl, V1, V2, V3, V4, V5, V6, V7, V8, V9, V10, V11, V12, V13, V14, VE, Nat.reduceBEq, Nat.reduceAdd, Nat.reduceSub, Nat.reduceMul, Nat.reduceLeDiff, Nat.reduceLT, Nat.reduceEqDiff, Int.reduceBEq, Int.reduceBNe, Int.reduceLT, Int.reduceLE, Int.reduceAdd, Int.reduceSub, Int.reduceMul, kAgg, scD, List.all_cons, List.all_nil]
    · subst h
      simp only [Bool.false_and] at hfit
      simp only [e1, e2, nums, rowsS, nodes, zv, bv, sv, nv, uv, bytesD, VL, VB, BEq.rfl, V1, V2, V3, V4, V5, V6, V7, V8, V9, V10, V11, V12, V13, V14, VE, Nat.reduceBEq, Nat.reduceAdd, Nat.reduceSub, Nat.reduceMul, Nat.reduceLeDiff, Nat.reduceLT, Nat.reduceEqDiff, Int.reduceBEq, Int.reduceBNe, Int.reduceLT, Int.reduceLE, Int.reduceAdd, Int.reduceSub, Int.reduceMul, kAgg, scD, List.all_cons, List.all_nil]
      simp only [wrap_nat (k := j) (by omega), nums, rowsS, nodes, zv, bv, sv, nv, uv, bytesD, VL, VB, BEq.rfl, V1, V2, V3, V4, V5, V6, V7, V8, V9, V10, V11, V12, V13, V14, VE, Nat.reduceBEq, Nat.reduceAdd, Nat.reduceSub, Nat.reduceMul, Nat.reduceLeDiff, Nat.reduceLT, Nat.reduceEqDiff, Int.reduceBEq, Int.reduceBNe, Int.reduceLT, Int.reduceLE, Int.reduceAdd, Int.reduceSub, Int.reduceMul, kAgg, scD, List.all_cons, List.all_nil]
      refine ⟨j + 1, Enter.id ?_, by omega, by show T.length - (j + 1) < T.length - j; omega⟩
      simp only [← hfit, ← hpow, nums, rowsS, nodes, zv, bv, sv, nv, uv, bytesD, VL, VB, BEq.rfl, V1, V2, V3, V4, V5, V6, V7, V8, V9, V10, V11, V12, V13, V14, VE, Nat.reduceBEq, Nat.reduceAdd, Nat.reduceSub, Nat.reduceMul, Nat.reduceLeDiff, Nat.reduceLT, Nat.reduceEqDiff, Int.reduceBEq, Int.reduceBNe, Int.reduceLT, Int.reduceLE, Int.reduceAdd, Int.reduceSub, Int.reduceMul, kAgg, scD, List.all_cons, List.all_nil]
  have hj' : j = T.length := by
    have : ¬ j < T.length := by simpa using h
    omega
  subst hj'
  clear h
  simp only [rowsN_D, nums, rowsS, nodes, zv, bv, sv, nv, uv, bytesD, VL, VB, BEq.rfl, V1, V2, V3, V4, V5, V6, V7, V8, V9, V10, V11, V12, V13, V14, VE, Nat.reduceBEq, Nat.reduceAdd, Nat.reduceSub, Nat.reduceMul, Nat.reduceLeDiff, Nat.reduceLT, Nat.reduceEqDiff, Int.reduceBEq, Int.reduceBNe, Int.reduceLT, Int.reduceLE, Int.reduceAdd, Int.reduceSub, Int.reduceMul, kAgg, scD, List.all_cons, List.all_nil]
  refine CallX.mk (Ways_ok T (zeroT i i) (List.replicate q (-1)) hsm) rfl ?_
  have hw : waysV T (zeroT i i) (List.replicate q (-1)) = if errW T (zeroT i i) (List.replicate q (-1)) = 0 then (waysN T (zeroT i i) (List.replicate q (-1)) : Int) else 0 := rfl
  have he : errW T (zeroT i i) (List.replicate q (-1)) = if errP T (zeroT i i) (List.replicate q (-1)) = 0 then (if waysN T (zeroT i i) (List.replicate q (-1)) < 9223372036854775808 then 0 else 7) else errP T (zeroT i i) (List.replicate q (-1)) := rfl
  rw [if_pos hov1, hov2] at he
  rw [hov2] at hw
  obtain ⟨W, hW⟩ : ∃ W, waysV T (zeroT i i) (List.replicate q (-1)) = W := ⟨_, rfl⟩
  obtain ⟨V, hV⟩ : ∃ V, errW T (zeroT i i) (List.replicate q (-1)) = V := ⟨_, rfl⟩
  rw [hW, hV] at hw
  rw [hV] at he
  simp only [hW, hV, nums, rowsS, nodes, zv, bv, sv, nv, uv, bytesD, VL, VB, BEq.rfl, V1, V2, V3, V4, V5, V6, V7, V8, V9, V10, V11, V12, V13, V14, VE, Nat.reduceBEq, Nat.reduceAdd, Nat.reduceSub, Nat.reduceMul, Nat.reduceLeDiff, Nat.reduceLT, Nat.reduceEqDiff, Int.reduceBEq, Int.reduceBNe, Int.reduceLT, Int.reduceLE, Int.reduceAdd, Int.reduceSub, Int.reduceMul, kAgg, scD, List.all_cons, List.all_nil]
  obtain ⟨z, hz'⟩ : ∃ z, i ^ T.length = z := ⟨_, rfl⟩
  simp only [hz'] at hw he ⊢
  by_cases hlt : z < 9223372036854775808
  · rw [if_pos hlt] at he
    subst he
    rw [if_pos rfl] at hw
    subst hw
    have w5 : IntKind.i64.wrap (z : Int) = (z : Int) := wrap_in (by omega) (by omega)
    simp only [decide_eq_true hlt, Nat.mod_eq_of_lt (show z < 18446744073709551616 by omega), w5, nums, rowsS, nodes, zv, bv, sv, nv, uv, bytesD, VL, VB, BEq.rfl, V1, V2, V3, V4, V5, V6, V7, V8, V9, V10, V11, V12, V13, V14, VE, Nat.reduceBEq, Nat.reduceAdd, Nat.reduceSub, Nat.reduceMul, Nat.reduceLeDiff, Nat.reduceLT, Nat.reduceEqDiff, Int.reduceBEq, Int.reduceBNe, Int.reduceLT, Int.reduceLE, Int.reduceAdd, Int.reduceSub, Int.reduceMul, kAgg, scD, List.all_cons, List.all_nil]
    refine CallX.mk works_ok rfl ?_
    simp only [nums, rowsS, nodes, zv, bv, sv, nv, uv, bytesD, VL, VB, BEq.rfl, V1, V2, V3, V4, V5, V6, V7, V8, V9, V10, V11, V12, V13, V14, VE, Nat.reduceBEq, Nat.reduceAdd, Nat.reduceSub, Nat.reduceMul, Nat.reduceLeDiff, Nat.reduceLT, Nat.reduceEqDiff, Int.reduceBEq, Int.reduceBNe, Int.reduceLT, Int.reduceLE, Int.reduceAdd, Int.reduceSub, Int.reduceMul, kAgg, scD, List.all_cons, List.all_nil]
  · rw [if_neg hlt] at he
    subst he
    rw [if_neg (by omega)] at hw
    subst hw
    simp only [decide_eq_false hlt, nums, rowsS, nodes, zv, bv, sv, nv, uv, bytesD, VL, VB, BEq.rfl, V1, V2, V3, V4, V5, V6, V7, V8, V9, V10, V11, V12, V13, V14, VE, Nat.reduceBEq, Nat.reduceAdd, Nat.reduceSub, Nat.reduceMul, Nat.reduceLeDiff, Nat.reduceLT, Nat.reduceEqDiff, Int.reduceBEq, Int.reduceBNe, Int.reduceLT, Int.reduceLE, Int.reduceAdd, Int.reduceSub, Int.reduceMul, kAgg, scD, List.all_cons, List.all_nil]
    refine CallX.mk works_ok rfl ?_
    simp only [nums, rowsS, nodes, zv, bv, sv, nv, uv, bytesD, VL, VB, BEq.rfl, V1, V2, V3, V4, V5, V6, V7, V8, V9, V10, V11, V12, V13, V14, VE, Nat.reduceBEq, Nat.reduceAdd, Nat.reduceSub, Nat.reduceMul, Nat.reduceLeDiff, Nat.reduceLT, Nat.reduceEqDiff, Int.reduceBEq, Int.reduceBNe, Int.reduceLT, Int.reduceLE, Int.reduceAdd, Int.reduceSub, Int.reduceMul, kAgg, scD, List.all_cons, List.all_nil]

end Go.Cp
namespace Go.Proofs.Ytfalggfambgkeaa
open Go Go.Proofs Go.RowKit Go.ChangeShapes Go.WideShapes Go.ChangeAt Go.Vx Go.Cp

theorem sankoffOver_lifted (os : Os) (started : os.Started) (H : Type) (enc : TypeId × Value → H) :
    ReturnsInHanded {} Try.checked os 9 .any (Rows.sankoffOverSpec.pre6 enc Try.prog Try.f9 Rows.sankoffOverRow.domain false) (Rows.sankoffOverSpec.post enc Try.prog Try.f9 false true false false) := by
  refine law_lifted (m := 8) (tb := 4) os started H enc own laid (by kernel_rfl) Try.func9 rfl Try.underlying4 rfl ?_ (by kernel_rfl) (by kernel_rfl)
    (ChangeSpec.witness6 (enc := enc) (C := Try.checked) false ⟨#[], #[.slice none 0 0, .int .u8 0], []⟩ 8 (by kernel_rfl) (by kernel_rfl) (by kernel_rfl) (by kernel_rfl)) ?_
  · rw [Try.params9]
    intro ds hd
    match ds, hd with
    | [d1, d2], _ => exact ⟨rfl, rfl, rfl⟩
  · rw [Try.params9]
    intro dss h
    obtain ⟨x1, x2, rfl, h1, h2⟩ := typedL2 h
    obtain ⟨ps, rfl, hp, hpl⟩ := typed_bytes (m := 6) h1
    obtain ⟨c, rfl, hc⟩ := typed_byte (m := 7) h2
    simp only [argsAV, argAV, Try.underlying22, Try.underlying5]
    exact over_law ps c hp hpl hc

theorem sankoffOver_holds : Rows.SankoffOverSaid :=
  OpenClaim.holds_of_wide 9 Try.f9 rfl rfl rfl rfl rfl rfl rfl ⟨rfl, rfl, rfl, rfl, rfl⟩ rfl rfl rfl rfl rfl (by kernel_rfl) Try.func9 (by kernel_rfl)
    (of_decide_eq_true (by kernel_rfl)) (by unfold Func.isWrapper; first | (rw [if_pos (by decide +kernel)]; kernel_rfl) | (rw [if_neg (by decide +kernel)]; exact ⟨rfl, rfl⟩))
    (fun os started H enc _ => sankoffOver_lifted os started H enc)
#print axioms sankoffOver_holds

end Go.Proofs.Ytfalggfambgkeaa
