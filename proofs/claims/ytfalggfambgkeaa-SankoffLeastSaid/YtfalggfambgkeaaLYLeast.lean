/-
  SankoffLeast returns true for every input: the cost of the first cheapest assignment is the smallest one; it agrees with the leaves; no other assignment that does costs less; its root is the first of the roots. Conditions: none.
-/
import Derived.Test.YtfalggfambgkeaaML
set_option linter.unusedVariables false
set_option linter.unusedSimpArgs false
set_option maxHeartbeats 8000000
set_option maxRecDepth 100000
namespace Go.Cp
open Go Go.Proofs Go.Vx

theorem set_numL (w : List Int) (j : Nat) (x : Int) : (w.map num).set j [.sc (.int .i64 x)] = (w.set j x).map num := by rw [List.map_set]; rfl
theorem row_oneL (w : List Int) (k : Nat) (h : k < w.length) : ((w.map num).getD k []).length = 1 := by rw [getD_num w k h]; rfl

theorem least_law (ps cs ss os : List Nat) (c : Nat) (hp : ∀ i, ps.getD i 0 < 256) (hpl : ps.length ≤ 9223372036854775807) (hcs : ∀ i, cs.getD i 0 < 256) (hss : ∀ i, ss.getD i 0 < 256) (hos : ∀ i, os.getD i 0 < 256) (hc : c < 256) :
    Ok Try.prog E 8 [.c (bytesD ps), .c (bytesD cs), .c (bytesD ss), .c (bytesD os), .c (.sc (.int .u8 c))] (bv true) := by
  refine ok_of_vc (L := []) (ts := [10]) envOK mixed Try.func8 rfl (by kernel_rfl) rfl (by kernel_rfl) rfl fun hl => ?_
  obtain ⟨n, hn⟩ : ∃ n, 1 + c % 12 = n := ⟨_, rfl⟩
  have hn0 : 0 < n := by omega
  have hn12 : n ≤ 12 := by omega
  have w1 : IntKind.i64.wrap (c : Int) = (c : Int) := wrap_in (by omega) (by omega)
  have w2 : Int.tmod (c : Int) 12 = ((c % 12 : Nat) : Int) := tmodN c 12
  have w3 : IntKind.i64.wrap (1 + ((c % 12 : Nat) : Int)) = (n : Int) := by rw [wrap_in (by omega) (by omega)]; omega
  simp only [Try.f8, w1, w2, w3, nums, rowsS, nodes, zv, bv, sv, nv, bytesD, VL, VB, BEq.rfl, V1, V2, V3, V4, V5, V6, V7, V8, V9, V10, V11, V12, VE, Nat.reduceBEq, Nat.reduceAdd, Nat.reduceSub, Nat.reduceMul, Nat.reduceLeDiff, Nat.reduceLT, Nat.reduceEqDiff, Int.reduceBEq, Int.reduceBNe, Int.reduceLT, Int.reduceLE, Int.reduceAdd, Int.reduceSub, Int.reduceMul, kAgg, scD, List.all_cons, List.all_nil]
  refine ⟨by decide, ?_⟩
  refine CallX.mk (grown_ok ps 62 (by omega) hp hpl) rfl ?_
  simp only [nums, rowsS, nodes, zv, bv, sv, nv, bytesD, VL, VB, BEq.rfl, V1, V2, V3, V4, V5, V6, V7, V8, V9, V10, V11, V12, VE, Nat.reduceBEq, Nat.reduceAdd, Nat.reduceSub, Nat.reduceMul, Nat.reduceLeDiff, Nat.reduceLT, Nat.reduceEqDiff, Int.reduceBEq, Int.reduceBNe, Int.reduceLT, Int.reduceLE, Int.reduceAdd, Int.reduceSub, Int.reduceMul, kAgg, scD, List.all_cons, List.all_nil]
  refine CallX.mk (square_ok n cs true hn0 hn12 hcs) rfl ?_
  simp only [nums, rowsS, nodes, zv, bv, sv, nv, bytesD, VL, VB, BEq.rfl, V1, V2, V3, V4, V5, V6, V7, V8, V9, V10, V11, V12, VE, Nat.reduceBEq, Nat.reduceAdd, Nat.reduceSub, Nat.reduceMul, Nat.reduceLeDiff, Nat.reduceLT, Nat.reduceEqDiff, Int.reduceBEq, Int.reduceBNe, Int.reduceLT, Int.reduceLE, Int.reduceAdd, Int.reduceSub, Int.reduceMul, kAgg, scD, List.all_cons, List.all_nil]
  have hck := drawn_check n ps cs ss hn0 hn12
  have hg := good_of hck
  have hlp := leaves_pos (treeD_ok ps)
  have hll := leaves_len (treeD ps)
  have hnl : (treeD ps).length = min ps.length 62 + 1 := grownTo_len ps _
  have hsm := treeD_small ps
  have hml : (matD n cs).length = n := squareT_len _ _ _ _
  refine CallX.mk (known_ok (leavesOf (treeD ps)) n ss hn0 hn12 (by omega) hss) rfl ?_
  obtain ⟨W, hW⟩ : ∃ W, knownL n ss (leavesOf (treeD ps)).length = W := ⟨_, rfl⟩
  have hWl : W.length = (leavesOf (treeD ps)).length := by rw [← hW, knownL_len]
  have hWb : ∀ k, k < W.length → -1 ≤ W.getD k 0 ∧ W.getD k 0 < n := fun k hk => by
    rw [← hW, known_at (by omega)]; exact knownN_bd n ss k hn0
  obtain ⟨T, hT⟩ : ∃ T, treeD ps = T := ⟨_, rfl⟩
  obtain ⟨M, hM⟩ : ∃ M, matD n cs = M := ⟨_, rfl⟩
  simp only [hW] at hck hg ⊢
  simp only [hT, hM] at hck hg hlp hll hml hWl hsm hnl ⊢
  simp only [nums, rowsS, nodes, zv, bv, sv, nv, bytesD, VL, VB, BEq.rfl, V1, V2, V3, V4, V5, V6, V7, V8, V9, V10, V11, V12, VE, Nat.reduceBEq, Nat.reduceAdd, Nat.reduceSub, Nat.reduceMul, Nat.reduceLeDiff, Nat.reduceLT, Nat.reduceEqDiff, Int.reduceBEq, Int.reduceBNe, Int.reduceLT, Int.reduceLE, Int.reduceAdd, Int.reduceSub, Int.reduceMul, kAgg, scD, List.all_cons, List.all_nil]
  refine CallX.mk (Min_ok T M W hsm) rfl ?_
  simp only [nums, rowsS, nodes, zv, bv, sv, nv, bytesD, VL, VB, BEq.rfl, V1, V2, V3, V4, V5, V6, V7, V8, V9, V10, V11, V12, VE, Nat.reduceBEq, Nat.reduceAdd, Nat.reduceSub, Nat.reduceMul, Nat.reduceLeDiff, Nat.reduceLT, Nat.reduceEqDiff, Int.reduceBEq, Int.reduceBNe, Int.reduceLT, Int.reduceLE, Int.reduceAdd, Int.reduceSub, Int.reduceMul, kAgg, scD, List.all_cons, List.all_nil]
  refine CallX.mk (Best_ok T M W hsm) rfl ?_
  simp only [nums, rowsS, nodes, zv, bv, sv, nv, bytesD, VL, VB, BEq.rfl, V1, V2, V3, V4, V5, V6, V7, V8, V9, V10, V11, V12, VE, Nat.reduceBEq, Nat.reduceAdd, Nat.reduceSub, Nat.reduceMul, Nat.reduceLeDiff, Nat.reduceLT, Nat.reduceEqDiff, Int.reduceBEq, Int.reduceBNe, Int.reduceLT, Int.reduceLE, Int.reduceAdd, Int.reduceSub, Int.reduceMul, kAgg, scD, List.all_cons, List.all_nil]
  refine CallX.mk (Roots_ok T M W hsm) rfl ?_
  have hec := err_cases hck
  have hcc := fun all => cost_cases (all := all) hck
  have hol := fun all => opt_lower (all := all) hck
  have hob := fun (h : errP T M W = 0) => opt_best h
  have hgr := fun (h : errP T M W = 0) => given_root h
  have hac := fun all => asg_cost (all := all) hck
  have hleafn := fun k => leaf_at (t := T) (k := k)
  obtain ⟨a, ha⟩ : ∃ a, minV T M W = a := ⟨_, rfl⟩
  obtain ⟨e, he⟩ : ∃ e, errP T M W = e := ⟨_, rfl⟩
  simp only [ha, he] at hec hol hob hgr ⊢
  have g1 : (e != 0 && e != 5) = false := by rcases hec with h | h <;> rw [h] <;> rfl
  simp only [bne_self_eq_false, nums, rowsS, nodes, zv, bv, sv, nv, bytesD, VL, VB, BEq.rfl, V1, V2, V3, V4, V5, V6, V7, V8, V9, V10, V11, V12, VE, Nat.reduceBEq, Nat.reduceAdd, Nat.reduceSub, Nat.reduceMul, Nat.reduceLeDiff, Nat.reduceLT, Nat.reduceEqDiff, Int.reduceBEq, Int.reduceBNe, Int.reduceLT, Int.reduceLE, Int.reduceAdd, Int.reduceSub, Int.reduceMul, kAgg, scD, List.all_cons, List.all_nil]
  obtain ⟨B, hB⟩ : ∃ B, bestV T M W = B := ⟨_, rfl⟩
  obtain ⟨R, hR⟩ : ∃ R, rootsV T M W = R := ⟨_, rfl⟩
  obtain ⟨L, hLe⟩ : ∃ L, leavesOf T = L := ⟨_, rfl⟩
  simp only [hB, hR] at hob hgr ⊢
  rw [hLe] at hlp hll hWl
  simp only [hLe]
  rcases hec with h0 | h5
  · simp only [show (e != 0) = false by rw [h0]; rfl, nums, rowsS, nodes, zv, bv, sv, nv, bytesD, VL, VB, BEq.rfl, V1, V2, V3, V4, V5, V6, V7, V8, V9, V10, V11, V12, VE, Nat.reduceBEq, Nat.reduceAdd, Nat.reduceSub, Nat.reduceMul, Nat.reduceLeDiff, Nat.reduceLT, Nat.reduceEqDiff, Int.reduceBEq, Int.reduceBNe, Int.reduceLT, Int.reduceLE, Int.reduceAdd, Int.reduceSub, Int.reduceMul, kAgg, scD, List.all_cons, List.all_nil]
    have hsz : (0 : Int) ≤ (T.length : Int) ∧ T.length * 8 ≤ 140737488355328 := by omega
    refine ⟨hsz, ?_⟩
    have hz0 : List.replicate T.length [D.sc (.int .i64 0)] = (baseL n os T.length 0).map num := by rw [baseL_zero, List.map_replicate]; rfl
    have hbl := baseL_len n os T.length
    simp only [hz0, hbl, nums, rowsS, nodes, zv, bv, sv, nv, bytesD, VL, VB, BEq.rfl, V1, V2, V3, V4, V5, V6, V7, V8, V9, V10, V11, V12, VE, Nat.reduceBEq, Nat.reduceAdd, Nat.reduceSub, Nat.reduceMul, Nat.reduceLeDiff, Nat.reduceLT, Nat.reduceEqDiff, Int.reduceBEq, Int.reduceBNe, Int.reduceLT, Int.reduceLE, Int.reduceAdd, Int.reduceSub, Int.reduceMul, kAgg, scD, List.all_cons, List.all_nil]
    refine LoopVC.mk (Y := Nat) (fun k => k ≤ T.length) (fun k => ⟨[(3, .c (bytesD os)), (11, nv n), (13, .c (nums L)), (12, .c (nodes T)), (14, .c (rowsS M)), (15, .osl 47 0), (16, zv a), (18, .c (nums B)), (20, .c (nums R)), (17, zv e), (22, .osl 87 0), (89, nv T.length), (90, nv k)], [(47, .frz 0 (W.map num)), (87, .arr 3 0 ((baseL n os T.length k).map num))]⟩) (fun k => T.length - k) ⟨0, Enter.id ?_, by omega⟩ ?_
    · simp only [nums, rowsS, nodes, zv, bv, sv, nv, bytesD, VL, VB, BEq.rfl, V1, V2, V3, V4, V5, V6, V7, V8, V9, V10, V11, V12, VE, Nat.reduceBEq, Nat.reduceAdd, Nat.reduceSub, Nat.reduceMul, Nat.reduceLeDiff, Nat.reduceLT, Nat.reduceEqDiff, Int.reduceBEq, Int.reduceBNe, Int.reduceLT, Int.reduceLE, Int.reduceAdd, Int.reduceSub, Int.reduceMul, kAgg, scD, List.all_cons, List.all_nil]
      rfl
    · intro k hk
      simp only [lt_nat, nums, rowsS, nodes, zv, bv, sv, nv, bytesD, VL, VB, BEq.rfl, V1, V2, V3, V4, V5, V6, V7, V8, V9, V10, V11, V12, VE, Nat.reduceBEq, Nat.reduceAdd, Nat.reduceSub, Nat.reduceMul, Nat.reduceLeDiff, Nat.reduceLT, Nat.reduceEqDiff, Int.reduceBEq, Int.reduceBNe, Int.reduceLT, Int.reduceLE, Int.reduceAdd, Int.reduceSub, Int.reduceMul, kAgg, scD, List.all_cons, List.all_nil]
      refine guardB.mk (fun h => ?_) (fun h => ?_)
      · have hk' : k < T.length := by simpa using h
        clear h
        have hset := baseL_set (n := n) (l := os) hk'
        have hbk := hbl k
        have hbn : baseN n os k = if os = [] then ((k % n : Nat) : Int) else ((os.getD (k % os.length) 0 % n : Nat) : Int) := rfl
        obtain ⟨A, hA⟩ : ∃ A, baseL n os T.length k = A := ⟨_, rfl⟩
        rw [hA] at hset hbk
        have hm1 : Int.tmod (k : Int) (n : Int) = ((k % n : Nat) : Int) := tmodN k n
        have hm2 : Int.tmod (k : Int) (os.length : Int) = ((k % os.length : Nat) : Int) := tmodN k os.length
        have hg2 : decide ((0 : Int) < (os.length : Int)) = decide (os ≠ []) := by
          congr 1
          exact propext ⟨fun h e => by rw [e] at h; simp at h, fun h => by have := List.length_pos_iff.2 h; omega⟩
        have h1 : ((A.map num).getD k []).length = 1 := row_oneL A k (by omega)
        have h2 : ∀ x, (((A.set k x).map num).getD k []).length = 1 := fun x => row_oneL _ k (by rw [List.length_set]; omega)
        simp only [hA, hm1, hg2, set_numL, drop1_num, h1, hbk, nums, rowsS, nodes, zv, bv, sv, nv, bytesD, VL, VB, BEq.rfl, V1, V2, V3, V4, V5, V6, V7, V8, V9, V10, V11, V12, VE, Nat.reduceBEq, Nat.reduceAdd, Nat.reduceSub, Nat.reduceMul, Nat.reduceLeDiff, Nat.reduceLT, Nat.reduceEqDiff, Int.reduceBEq, Int.reduceBNe, Int.reduceLT, Int.reduceLE, Int.reduceAdd, Int.reduceSub, Int.reduceMul, kAgg, scD, List.all_cons, List.all_nil]
        refine ⟨by omega, Int.natCast_nonneg k, hk', hk', ?_⟩
        refine guardB.mk (fun h => ?_) (fun h => ?_) <;> simp only [h, nums, rowsS, nodes, zv, bv, sv, nv, bytesD, VL, VB, BEq.rfl, V1, V2, V3, V4, V5, V6, V7, V8, V9, V10, V11, V12, VE, Nat.reduceBEq, Nat.reduceAdd, Nat.reduceSub, Nat.reduceMul, Nat.reduceLeDiff, Nat.reduceLT, Nat.reduceEqDiff, Int.reduceBEq, Int.reduceBNe, Int.reduceLT, Int.reduceLE, Int.reduceAdd, Int.reduceSub, Int.reduceMul, kAgg, scD, List.all_cons, List.all_nil]
        · have h : os ≠ [] := by simpa using h
          have hpos := List.length_pos_iff.2 h
          have hlt : k % os.length < os.length := Nat.mod_lt _ hpos
          rw [if_neg h] at hbn
          obtain ⟨j, hj⟩ : ∃ j, k % os.length = j := ⟨_, rfl⟩
          rw [hj] at hm2 hlt hbn
          have hgj := getD_u8 os j hlt
          have hq256 := hos j
          obtain ⟨q, hq⟩ : ∃ q, os.getD j 0 = q := ⟨_, rfl⟩
          rw [hq] at hgj hq256 hbn
          have hwq : IntKind.i64.wrap (q : Int) = (q : Int) := wrap_in (by omega) (by omega)
          have hm3 : Int.tmod (q : Int) (n : Int) = ((q % n : Nat) : Int) := tmodN q n
          simp only [hm2, hgj, u8E_def, hwq, hm3, ← hbn, set_numL, List.set_set, hset, drop1_num, h2, List.length_set, hbk, wrap_nat (k := k) (by omega), nums, rowsS, nodes, zv, bv, sv, nv, bytesD, VL, VB, BEq.rfl, V1, V2, V3, V4, V5, V6, V7, V8, V9, V10, V11, V12, VE, Nat.reduceBEq, Nat.reduceAdd, Nat.reduceSub, Nat.reduceMul, Nat.reduceLeDiff, Nat.reduceLT, Nat.reduceEqDiff, Int.reduceBEq, Int.reduceBNe, Int.reduceLT, Int.reduceLE, Int.reduceAdd, Int.reduceSub, Int.reduceMul, kAgg, scD, List.all_cons, List.all_nil]
          refine ⟨by omega, ⟨Int.natCast_nonneg j, hlt⟩, by omega, Int.natCast_nonneg k, hk', hk', k + 1, Enter.id ?_, by omega, by show T.length - (k + 1) < T.length - k; omega⟩
          simp only [nums, rowsS, nodes, zv, bv, sv, nv, bytesD, VL, VB, BEq.rfl, V1, V2, V3, V4, V5, V6, V7, V8, V9, V10, V11, V12, VE, Nat.reduceBEq, Nat.reduceAdd, Nat.reduceSub, Nat.reduceMul, Nat.reduceLeDiff, Nat.reduceLT, Nat.reduceEqDiff, Int.reduceBEq, Int.reduceBNe, Int.reduceLT, Int.reduceLE, Int.reduceAdd, Int.reduceSub, Int.reduceMul, kAgg, scD, List.all_cons, List.all_nil]
        · have h : os = [] := by simpa using h
          rw [if_pos h] at hbn
          simp only [← hbn, hset, wrap_nat (k := k) (by omega), nums, rowsS, nodes, zv, bv, sv, nv, bytesD, VL, VB, BEq.rfl, V1, V2, V3, V4, V5, V6, V7, V8, V9, V10, V11, V12, VE, Nat.reduceBEq, Nat.reduceAdd, Nat.reduceSub, Nat.reduceMul, Nat.reduceLeDiff, Nat.reduceLT, Nat.reduceEqDiff, Int.reduceBEq, Int.reduceBNe, Int.reduceLT, Int.reduceLE, Int.reduceAdd, Int.reduceSub, Int.reduceMul, kAgg, scD, List.all_cons, List.all_nil]
          refine ⟨k + 1, Enter.id ?_, by omega, by show T.length - (k + 1) < T.length - k; omega⟩
          simp only [nums, rowsS, nodes, zv, bv, sv, nv, bytesD, VL, VB, BEq.rfl, V1, V2, V3, V4, V5, V6, V7, V8, V9, V10, V11, V12, VE, Nat.reduceBEq, Nat.reduceAdd, Nat.reduceSub, Nat.reduceMul, Nat.reduceLeDiff, Nat.reduceLT, Nat.reduceEqDiff, Int.reduceBEq, Int.reduceBNe, Int.reduceLT, Int.reduceLE, Int.reduceAdd, Int.reduceSub, Int.reduceMul, kAgg, scD, List.all_cons, List.all_nil]
      have hk' : k = T.length := by
        have : ¬ k < T.length := by simpa using h
        omega
      subst hk'
      clear h
      simp only [nums, rowsS, nodes, zv, bv, sv, nv, bytesD, VL, VB, BEq.rfl, V1, V2, V3, V4, V5, V6, V7, V8, V9, V10, V11, V12, VE, Nat.reduceBEq, Nat.reduceAdd, Nat.reduceSub, Nat.reduceMul, Nat.reduceLeDiff, Nat.reduceLT, Nat.reduceEqDiff, Int.reduceBEq, Int.reduceBNe, Int.reduceLT, Int.reduceLE, Int.reduceAdd, Int.reduceSub, Int.reduceMul, kAgg, scD, List.all_cons, List.all_nil]
      have hbl := hbl T.length
      have hab : ∀ v, v < T.length → 0 ≤ (baseL n os T.length T.length).getD v 0 ∧ (baseL n os T.length T.length).getD v 0 < n := fun v hv => by
        rw [baseL_at hv]; exact baseN_bd n os v hn0
      obtain ⟨A, hA⟩ : ∃ A, baseL n os T.length T.length = A := ⟨_, rfl⟩
      rw [hA] at hbl
      simp only [hA] at hab ⊢
      have hpl2 := putTo_len L W A
      refine LoopVC.mk (Y := Nat) (fun k => k ≤ L.length) (fun k => ⟨[(13, .c (nums L)), (12, .c (nodes T)), (14, .c (rowsS M)), (15, .osl 47 0), (16, zv a), (18, .c (nums B)), (20, .c (nums R)), (17, zv e), (22, .osl 87 0), (116, .c (nums L)), (117, nv L.length), (118, nv k)], [(47, .frz 0 (W.map num)), (87, .arr 3 0 ((putTo L W A k).map num))]⟩) (fun k => L.length - k) ⟨0, Enter.id ?_, by omega⟩ ?_
      · simp only [putTo, nums, rowsS, nodes, zv, bv, sv, nv, bytesD, VL, VB, BEq.rfl, V1, V2, V3, V4, V5, V6, V7, V8, V9, V10, V11, V12, VE, Nat.reduceBEq, Nat.reduceAdd, Nat.reduceSub, Nat.reduceMul, Nat.reduceLeDiff, Nat.reduceLT, Nat.reduceEqDiff, Int.reduceBEq, Int.reduceBNe, Int.reduceLT, Int.reduceLE, Int.reduceAdd, Int.reduceSub, Int.reduceMul, kAgg, scD, List.all_cons, List.all_nil]
        rfl
      intro k hk
      simp only [lt_nat, nums, rowsS, nodes, zv, bv, sv, nv, bytesD, VL, VB, BEq.rfl, V1, V2, V3, V4, V5, V6, V7, V8, V9, V10, V11, V12, VE, Nat.reduceBEq, Nat.reduceAdd, Nat.reduceSub, Nat.reduceMul, Nat.reduceLeDiff, Nat.reduceLT, Nat.reduceEqDiff, Int.reduceBEq, Int.reduceBNe, Int.reduceLT, Int.reduceLE, Int.reduceAdd, Int.reduceSub, Int.reduceMul, kAgg, scD, List.all_cons, List.all_nil]
      refine guardB.mk (fun h => ?_) (fun h => ?_)
      · have hk' : k < L.length := by simpa using h
        clear h
        obtain ⟨v, hv, hvn⟩ := hleafn k (by rw [hLe]; exact hk')
        rw [hLe] at hv
        have hps : putTo L W A (k + 1) = if 0 ≤ W.getD k 0 then (putTo L W A k).set v (W.getD k 0) else putTo L W A k := by rw [putTo, hv]; rfl
        have hpk := hpl2 k
        obtain ⟨P, hP⟩ : ∃ P, putTo L W A k = P := ⟨_, rfl⟩
        rw [hP] at hps hpk
        obtain ⟨w, hw⟩ : ∃ w, W.getD k 0 = w := ⟨_, rfl⟩
        rw [hw] at hps
        have h1 : ((P.map num).getD v []).length = 1 := row_oneL P v (by omega)
        simp only [hP, getD_num L k hk', hv, getD_num W k (by omega), hw, num_def, nums, rowsS, nodes, zv, bv, sv, nv, bytesD, VL, VB, BEq.rfl, V1, V2, V3, V4, V5, V6, V7, V8, V9, V10, V11, V12, VE, Nat.reduceBEq, Nat.reduceAdd, Nat.reduceSub, Nat.reduceMul, Nat.reduceLeDiff, Nat.reduceLT, Nat.reduceEqDiff, Int.reduceBEq, Int.reduceBNe, Int.reduceLT, Int.reduceLE, Int.reduceAdd, Int.reduceSub, Int.reduceMul, kAgg, scD, List.all_cons, List.all_nil]
        refine ⟨⟨Int.natCast_nonneg k, hk'⟩, Int.natCast_nonneg k, by omega, ?_⟩
        refine guardB.mk (fun h => ?_) (fun h => ?_) <;> simp only [h, nums, rowsS, nodes, zv, bv, sv, nv, bytesD, VL, VB, BEq.rfl, V1, V2, V3, V4, V5, V6, V7, V8, V9, V10, V11, V12, VE, Nat.reduceBEq, Nat.reduceAdd, Nat.reduceSub, Nat.reduceMul, Nat.reduceLeDiff, Nat.reduceLT, Nat.reduceEqDiff, Int.reduceBEq, Int.reduceBNe, Int.reduceLT, Int.reduceLE, Int.reduceAdd, Int.reduceSub, Int.reduceMul, kAgg, scD, List.all_cons, List.all_nil]
        · have h0 : 0 ≤ w := by simpa using h
          rw [if_pos h0] at hps
          simp only [getD_num W k (by omega), hw, num_def, set_numL, drop1_num, h1, ← hps, hpk, wrap_nat (k := k) (by omega), nums, rowsS, nodes, zv, bv, sv, nv, bytesD, VL, VB, BEq.rfl, V1, V2, V3, V4, V5, V6, V7, V8, V9, V10, V11, V12, VE, Nat.reduceBEq, Nat.reduceAdd, Nat.reduceSub, Nat.reduceMul, Nat.reduceLeDiff, Nat.reduceLT, Nat.reduceEqDiff, Int.reduceBEq, Int.reduceBNe, Int.reduceLT, Int.reduceLE, Int.reduceAdd, Int.reduceSub, Int.reduceMul, kAgg, scD, List.all_cons, List.all_nil]
          refine ⟨Int.natCast_nonneg k, by omega, Int.natCast_nonneg v, by omega, by omega, k + 1, Enter.id ?_, by omega, by show L.length - (k + 1) < L.length - k; omega⟩
          simp only [nums, rowsS, nodes, zv, bv, sv, nv, bytesD, VL, VB, BEq.rfl, V1, V2, V3, V4, V5, V6, V7, V8, V9, V10, V11, V12, VE, Nat.reduceBEq, Nat.reduceAdd, Nat.reduceSub, Nat.reduceMul, Nat.reduceLeDiff, Nat.reduceLT, Nat.reduceEqDiff, Int.reduceBEq, Int.reduceBNe, Int.reduceLT, Int.reduceLE, Int.reduceAdd, Int.reduceSub, Int.reduceMul, kAgg, scD, List.all_cons, List.all_nil]
        · have h0 : ¬ 0 ≤ w := by simpa using h
          rw [if_neg h0] at hps
          simp only [wrap_nat (k := k) (by omega), nums, rowsS, nodes, zv, bv, sv, nv, bytesD, VL, VB, BEq.rfl, V1, V2, V3, V4, V5, V6, V7, V8, V9, V10, V11, V12, VE, Nat.reduceBEq, Nat.reduceAdd, Nat.reduceSub, Nat.reduceMul, Nat.reduceLeDiff, Nat.reduceLT, Nat.reduceEqDiff, Int.reduceBEq, Int.reduceBNe, Int.reduceLT, Int.reduceLE, Int.reduceAdd, Int.reduceSub, Int.reduceMul, kAgg, scD, List.all_cons, List.all_nil]
          refine ⟨k + 1, Enter.id ?_, by omega, by show L.length - (k + 1) < L.length - k; omega⟩
          simp only [hps, nums, rowsS, nodes, zv, bv, sv, nv, bytesD, VL, VB, BEq.rfl, V1, V2, V3, V4, V5, V6, V7, V8, V9, V10, V11, V12, VE, Nat.reduceBEq, Nat.reduceAdd, Nat.reduceSub, Nat.reduceMul, Nat.reduceLeDiff, Nat.reduceLT, Nat.reduceEqDiff, Int.reduceBEq, Int.reduceBNe, Int.reduceLT, Int.reduceLE, Int.reduceAdd, Int.reduceSub, Int.reduceMul, kAgg, scD, List.all_cons, List.all_nil]
      have hk' : k = L.length := by
        have : ¬ k < L.length := by simpa using h
        omega
      subst hk'
      clear h
      have hpb := putTo_bd (L := L) (W := W) (A := A) (n := n) (fun v hv => hab v (by omega)) (fun k hk => (hWb k hk).2) L.length (by omega)
      have hpi := fun v => putTo_ini (t := T) (m := M) (W := W) (A := A) (by omega) (fun v hv => by rw [hLe, hml]; exact hpb v (by omega)) (fun k hk => (hWb k (by rw [hLe] at hk; omega)).1) (v := v)
      have hpk := hpl2 L.length
      simp only [hLe] at hpi
      obtain ⟨P, hP⟩ : ∃ P, putTo L W A L.length = P := ⟨_, rfl⟩
      rw [hP] at hpk
      simp only [hP] at hpb hpi ⊢
      have hcc := hcc P (by omega) (fun v hv => by rw [hml]; exact hpb v (by omega)) hpi
      have hol := hol P
      simp only [nums, rowsS, nodes, zv, bv, sv, nv, bytesD, VL, VB, BEq.rfl, V1, V2, V3, V4, V5, V6, V7, V8, V9, V10, V11, V12, VE, Nat.reduceBEq, Nat.reduceAdd, Nat.reduceSub, Nat.reduceMul, Nat.reduceLeDiff, Nat.reduceLT, Nat.reduceEqDiff, Int.reduceBEq, Int.reduceBNe, Int.reduceLT, Int.reduceLE, Int.reduceAdd, Int.reduceSub, Int.reduceMul, kAgg, scD, List.all_cons, List.all_nil]
      refine CallX.mk (Cost_ok T M P hsm) rfl ?_
      obtain ⟨u, hu⟩ : ∃ u, costV T M P = u := ⟨_, rfl⟩
      obtain ⟨q, hq⟩ : ∃ q, errV T M P = q := ⟨_, rfl⟩
      simp only [hu, hq] at hcc ⊢
      obtain ⟨hBa, hBc, _, _⟩ := hob h0
      obtain ⟨b, r, hRe, hB0, hge, hgv⟩ := hgr h0
      obtain ⟨hce, hcv⟩ := hac B hBa
      have hBl := hBa.len
      have hu1 : q = 0 → ¬ u < a := fun hq0 => by
        rcases hcc with ⟨_, h2, h⟩ | ⟨h, _⟩
        · have := (hol h).2.1; omega
        · omega
      have hq2 : q = 0 ∨ q = 5 := by
        rcases hcc with ⟨h, _⟩ | ⟨h, _⟩
        · exact .inl h
        · exact .inr h
      have eB : ((B.length : Int) != (T.length : Int)) = false := by rw [hBl]; simp
      have eR : ((((b : Int) :: r).length : Int) == 0) = false := by simp only [List.length_cons, int_beq, decide_eq_false_iff_not]; omega
      have eR2 : (((r.length + 1 : Nat) : Int) == 0) = false := by simp only [int_beq, decide_eq_false_iff_not]; omega
      have hB0' : (B.map num).getD 0 [] = num (b : Int) := by rw [getD_num B 0 (by omega), hB0]
      simp only [show (e != 0) = false by rw [h0]; rfl, nums, rowsS, nodes, zv, bv, sv, nv, bytesD, VL, VB, BEq.rfl, V1, V2, V3, V4, V5, V6, V7, V8, V9, V10, V11, V12, VE, Nat.reduceBEq, Nat.reduceAdd, Nat.reduceSub, Nat.reduceMul, Nat.reduceLeDiff, Nat.reduceLT, Nat.reduceEqDiff, Int.reduceBEq, Int.reduceBNe, Int.reduceLT, Int.reduceLE, Int.reduceAdd, Int.reduceSub, Int.reduceMul, kAgg, scD, List.all_cons, List.all_nil]
      rcases hq2 with hq0 | hq0
      · simp only [hq0, decide_eq_false (hu1 hq0), eB, hRe, eR, eR2, hB0', num_def, List.getD_cons_zero, nums, rowsS, nodes, zv, bv, sv, nv, bytesD, VL, VB, BEq.rfl, V1, V2, V3, V4, V5, V6, V7, V8, V9, V10, V11, V12, VE, Nat.reduceBEq, Nat.reduceAdd, Nat.reduceSub, Nat.reduceMul, Nat.reduceLeDiff, Nat.reduceLT, Nat.reduceEqDiff, Int.reduceBEq, Int.reduceBNe, Int.reduceLT, Int.reduceLE, Int.reduceAdd, Int.reduceSub, Int.reduceMul, kAgg, scD, List.all_cons, List.all_nil]
        refine ⟨by omega, by omega, ?_⟩
        simp only [bne_self_eq_false, nums, rowsS, nodes, zv, bv, sv, nv, bytesD, VL, VB, BEq.rfl, V1, V2, V3, V4, V5, V6, V7, V8, V9, V10, V11, V12, VE, Nat.reduceBEq, Nat.reduceAdd, Nat.reduceSub, Nat.reduceMul, Nat.reduceLeDiff, Nat.reduceLT, Nat.reduceEqDiff, Int.reduceBEq, Int.reduceBNe, Int.reduceLT, Int.reduceLE, Int.reduceAdd, Int.reduceSub, Int.reduceMul, kAgg, scD, List.all_cons, List.all_nil]
        refine LoopVC.mk (Y := Nat) (fun k => k ≤ L.length) (fun k => ⟨[(12, .c (nodes T)), (14, .c (rowsS M)), (15, .osl 47 0), (16, zv a), (18, .c (nums B)), (20, .c (nums ((b : Int) :: r))), (186, .c (nums L)), (187, nv L.length), (188, nv k)], [(47, .frz 0 (W.map num))]⟩) (fun k => L.length - k) ⟨0, Enter.id ?_, by omega⟩ ?_
        · simp only [nums, rowsS, nodes, zv, bv, sv, nv, bytesD, VL, VB, BEq.rfl, V1, V2, V3, V4, V5, V6, V7, V8, V9, V10, V11, V12, VE, Nat.reduceBEq, Nat.reduceAdd, Nat.reduceSub, Nat.reduceMul, Nat.reduceLeDiff, Nat.reduceLT, Nat.reduceEqDiff, Int.reduceBEq, Int.reduceBNe, Int.reduceLT, Int.reduceLE, Int.reduceAdd, Int.reduceSub, Int.reduceMul, kAgg, scD, List.all_cons, List.all_nil]
          exact ⟨rfl, rfl⟩
        intro k hk
        simp only [lt_nat, nums, rowsS, nodes, zv, bv, sv, nv, bytesD, VL, VB, BEq.rfl, V1, V2, V3, V4, V5, V6, V7, V8, V9, V10, V11, V12, VE, Nat.reduceBEq, Nat.reduceAdd, Nat.reduceSub, Nat.reduceMul, Nat.reduceLeDiff, Nat.reduceLT, Nat.reduceEqDiff, Int.reduceBEq, Int.reduceBNe, Int.reduceLT, Int.reduceLE, Int.reduceAdd, Int.reduceSub, Int.reduceMul, kAgg, scD, List.all_cons, List.all_nil]
        refine guardB.mk (fun h => ?_) (fun h => ?_)
        · have hk' : k < L.length := by simpa using h
          clear h
          obtain ⟨v, hv, hvn⟩ := hleafn k (by rw [hLe]; exact hk')
          have hbdv := hBa.bd v hvn
          have hfit := (ini_zero (by rw [aOf]; omega)).1 (hBa.fit v hvn) k (by rw [hLe]; exact hk') (by rw [hv]; rfl)
          rw [hLe] at hv
          obtain ⟨w, hw⟩ : ∃ w, W.getD k 0 = w := ⟨_, rfl⟩
          obtain ⟨x, hx⟩ : ∃ x, B.getD v 0 = x := ⟨_, rfl⟩
          have e0 : aOf B v = x.toNat := by rw [aOf, hx]
          rw [hw, e0] at hfit
          rw [hx] at hbdv
          simp only [getD_num L k hk', hv, getD_num W k (by omega), hw, num_def, nums, rowsS, nodes, zv, bv, sv, nv, bytesD, VL, VB, BEq.rfl, V1, V2, V3, V4, V5, V6, V7, V8, V9, V10, V11, V12, VE, Nat.reduceBEq, Nat.reduceAdd, Nat.reduceSub, Nat.reduceMul, Nat.reduceLeDiff, Nat.reduceLT, Nat.reduceEqDiff, Int.reduceBEq, Int.reduceBNe, Int.reduceLT, Int.reduceLE, Int.reduceAdd, Int.reduceSub, Int.reduceMul, kAgg, scD, List.all_cons, List.all_nil]
          refine ⟨⟨Int.natCast_nonneg k, hk'⟩, Int.natCast_nonneg k, by omega, ?_⟩
          refine guardB.mk (fun h => ?_) (fun h => ?_) <;> simp only [h, nums, rowsS, nodes, zv, bv, sv, nv, bytesD, VL, VB, BEq.rfl, V1, V2, V3, V4, V5, V6, V7, V8, V9, V10, V11, V12, VE, Nat.reduceBEq, Nat.reduceAdd, Nat.reduceSub, Nat.reduceMul, Nat.reduceLeDiff, Nat.reduceLT, Nat.reduceEqDiff, Int.reduceBEq, Int.reduceBNe, Int.reduceLT, Int.reduceLE, Int.reduceAdd, Int.reduceSub, Int.reduceMul, kAgg, scD, List.all_cons, List.all_nil]
          · have h1 : 0 ≤ w := by simpa using h
            have h2 : (x != w) = false := by
              have : x = w := by omega
              rw [this]; simp
            simp only [getD_num B v (by omega), getD_num W k (by omega), hw, hx, h2, num_def, wrap_nat (k := k) (by omega), nums, rowsS, nodes, zv, bv, sv, nv, bytesD, VL, VB, BEq.rfl, V1, V2, V3, V4, V5, V6, V7, V8, V9, V10, V11, V12, VE, Nat.reduceBEq, Nat.reduceAdd, Nat.reduceSub, Nat.reduceMul, Nat.reduceLeDiff, Nat.reduceLT, Nat.reduceEqDiff, Int.reduceBEq, Int.reduceBNe, Int.reduceLT, Int.reduceLE, Int.reduceAdd, Int.reduceSub, Int.reduceMul, kAgg, scD, List.all_cons, List.all_nil]
            refine ⟨⟨Int.natCast_nonneg v, by omega⟩, Int.natCast_nonneg k, by omega, k + 1, Enter.id ?_, by omega, by show L.length - (k + 1) < L.length - k; omega⟩
            simp only [nums, rowsS, nodes, zv, bv, sv, nv, bytesD, VL, VB, BEq.rfl, V1, V2, V3, V4, V5, V6, V7, V8, V9, V10, V11, V12, VE, Nat.reduceBEq, Nat.reduceAdd, Nat.reduceSub, Nat.reduceMul, Nat.reduceLeDiff, Nat.reduceLT, Nat.reduceEqDiff, Int.reduceBEq, Int.reduceBNe, Int.reduceLT, Int.reduceLE, Int.reduceAdd, Int.reduceSub, Int.reduceMul, kAgg, scD, List.all_cons, List.all_nil]
          · simp only [wrap_nat (k := k) (by omega), nums, rowsS, nodes, zv, bv, sv, nv, bytesD, VL, VB, BEq.rfl, V1, V2, V3, V4, V5, V6, V7, V8, V9, V10, V11, V12, VE, Nat.reduceBEq, Nat.reduceAdd, Nat.reduceSub, Nat.reduceMul, Nat.reduceLeDiff, Nat.reduceLT, Nat.reduceEqDiff, Int.reduceBEq, Int.reduceBNe, Int.reduceLT, Int.reduceLE, Int.reduceAdd, Int.reduceSub, Int.reduceMul, kAgg, scD, List.all_cons, List.all_nil]
            refine ⟨k + 1, Enter.id ?_, by omega, by show L.length - (k + 1) < L.length - k; omega⟩
            simp only [nums, rowsS, nodes, zv, bv, sv, nv, bytesD, VL, VB, BEq.rfl, V1, V2, V3, V4, V5, V6, V7, V8, V9, V10, V11, V12, VE, Nat.reduceBEq, Nat.reduceAdd, Nat.reduceSub, Nat.reduceMul, Nat.reduceLeDiff, Nat.reduceLT, Nat.reduceEqDiff, Int.reduceBEq, Int.reduceBNe, Int.reduceLT, Int.reduceLE, Int.reduceAdd, Int.reduceSub, Int.reduceMul, kAgg, scD, List.all_cons, List.all_nil]
        have hk' : k = L.length := by
          have : ¬ k < L.length := by simpa using h
          omega
        subst hk'
        clear h
        simp only [nums, rowsS, nodes, zv, bv, sv, nv, bytesD, VL, VB, BEq.rfl, V1, V2, V3, V4, V5, V6, V7, V8, V9, V10, V11, V12, VE, Nat.reduceBEq, Nat.reduceAdd, Nat.reduceSub, Nat.reduceMul, Nat.reduceLeDiff, Nat.reduceLT, Nat.reduceEqDiff, Int.reduceBEq, Int.reduceBNe, Int.reduceLT, Int.reduceLE, Int.reduceAdd, Int.reduceSub, Int.reduceMul, kAgg, scD, List.all_cons, List.all_nil]
        refine CallX.mk (Cost_ok T M B hsm) rfl ?_
        simp only [hce, hcv, hBc, num_def, List.getD_cons_zero, nums, rowsS, nodes, zv, bv, sv, nv, bytesD, VL, VB, BEq.rfl, V1, V2, V3, V4, V5, V6, V7, V8, V9, V10, V11, V12, VE, Nat.reduceBEq, Nat.reduceAdd, Nat.reduceSub, Nat.reduceMul, Nat.reduceLeDiff, Nat.reduceLT, Nat.reduceEqDiff, Int.reduceBEq, Int.reduceBNe, Int.reduceLT, Int.reduceLE, Int.reduceAdd, Int.reduceSub, Int.reduceMul, kAgg, scD, List.all_cons, List.all_nil]
        refine ⟨by omega, ?_⟩
        refine CallX.mk (Given_ok T M W (b : Int) hsm) rfl ?_
        simp only [hge, hgv, ha, int_beq, nums, rowsS, nodes, zv, bv, sv, nv, bytesD, VL, VB, BEq.rfl, V1, V2, V3, V4, V5, V6, V7, V8, V9, V10, V11, V12, VE, Nat.reduceBEq, Nat.reduceAdd, Nat.reduceSub, Nat.reduceMul, Nat.reduceLeDiff, Nat.reduceLT, Nat.reduceEqDiff, Int.reduceBEq, Int.reduceBNe, Int.reduceLT, Int.reduceLE, Int.reduceAdd, Int.reduceSub, Int.reduceMul, kAgg, scD, List.all_cons, List.all_nil]
        refine CallX.mk works_ok rfl ?_
        simp only [nums, rowsS, nodes, zv, bv, sv, nv, bytesD, VL, VB, BEq.rfl, V1, V2, V3, V4, V5, V6, V7, V8, V9, V10, V11, V12, VE, Nat.reduceBEq, Nat.reduceAdd, Nat.reduceSub, Nat.reduceMul, Nat.reduceLeDiff, Nat.reduceLT, Nat.reduceEqDiff, Int.reduceBEq, Int.reduceBNe, Int.reduceLT, Int.reduceLE, Int.reduceAdd, Int.reduceSub, Int.reduceMul, kAgg, scD, List.all_cons, List.all_nil]
      · simp only [hq0, eB, hRe, eR, eR2, hB0', num_def, List.getD_cons_zero, nums, rowsS, nodes, zv, bv, sv, nv, bytesD, VL, VB, BEq.rfl, V1, V2, V3, V4, V5, V6, V7, V8, V9, V10, V11, V12, VE, Nat.reduceBEq, Nat.reduceAdd, Nat.reduceSub, Nat.reduceMul, Nat.reduceLeDiff, Nat.reduceLT, Nat.reduceEqDiff, Int.reduceBEq, Int.reduceBNe, Int.reduceLT, Int.reduceLE, Int.reduceAdd, Int.reduceSub, Int.reduceMul, kAgg, scD, List.all_cons, List.all_nil]
        refine ⟨by omega, by omega, ?_⟩
        simp only [bne_self_eq_false, nums, rowsS, nodes, zv, bv, sv, nv, bytesD, VL, VB, BEq.rfl, V1, V2, V3, V4, V5, V6, V7, V8, V9, V10, V11, V12, VE, Nat.reduceBEq, Nat.reduceAdd, Nat.reduceSub, Nat.reduceMul, Nat.reduceLeDiff, Nat.reduceLT, Nat.reduceEqDiff, Int.reduceBEq, Int.reduceBNe, Int.reduceLT, Int.reduceLE, Int.reduceAdd, Int.reduceSub, Int.reduceMul, kAgg, scD, List.all_cons, List.all_nil]
        refine LoopVC.mk (Y := Nat) (fun k => k ≤ L.length) (fun k => ⟨[(12, .c (nodes T)), (14, .c (rowsS M)), (15, .osl 47 0), (16, zv a), (18, .c (nums B)), (20, .c (nums ((b : Int) :: r))), (186, .c (nums L)), (187, nv L.length), (188, nv k)], [(47, .frz 0 (W.map num))]⟩) (fun k => L.length - k) ⟨0, Enter.id ?_, by omega⟩ ?_
        · simp only [nums, rowsS, nodes, zv, bv, sv, nv, bytesD, VL, VB, BEq.rfl, V1, V2, V3, V4, V5, V6, V7, V8, V9, V10, V11, V12, VE, Nat.reduceBEq, Nat.reduceAdd, Nat.reduceSub, Nat.reduceMul, Nat.reduceLeDiff, Nat.reduceLT, Nat.reduceEqDiff, Int.reduceBEq, Int.reduceBNe, Int.reduceLT, Int.reduceLE, Int.reduceAdd, Int.reduceSub, Int.reduceMul, kAgg, scD, List.all_cons, List.all_nil]
          exact ⟨rfl, rfl⟩
        intro k hk
        simp only [lt_nat, nums, rowsS, nodes, zv, bv, sv, nv, bytesD, VL, VB, BEq.rfl, V1, V2, V3, V4, V5, V6, V7, V8, V9, V10, V11, V12, VE, Nat.reduceBEq, Nat.reduceAdd, Nat.reduceSub, Nat.reduceMul, Nat.reduceLeDiff, Nat.reduceLT, Nat.reduceEqDiff, Int.reduceBEq, Int.reduceBNe, Int.reduceLT, Int.reduceLE, Int.reduceAdd, Int.reduceSub, Int.reduceMul, kAgg, scD, List.all_cons, List.all_nil]
        refine guardB.mk (fun h => ?_) (fun h => ?_)
        · have hk' : k < L.length := by simpa using h
          clear h
          obtain ⟨v, hv, hvn⟩ := hleafn k (by rw [hLe]; exact hk')
          have hbdv := hBa.bd v hvn
          have hfit := (ini_zero (by rw [aOf]; omega)).1 (hBa.fit v hvn) k (by rw [hLe]; exact hk') (by rw [hv]; rfl)
          rw [hLe] at hv
          obtain ⟨w, hw⟩ : ∃ w, W.getD k 0 = w := ⟨_, rfl⟩
          obtain ⟨x, hx⟩ : ∃ x, B.getD v 0 = x := ⟨_, rfl⟩
          have e0 : aOf B v = x.toNat := by rw [aOf, hx]
          rw [hw, e0] at hfit
          rw [hx] at hbdv
          simp only [getD_num L k hk', hv, getD_num W k (by omega), hw, num_def, nums, rowsS, nodes, zv, bv, sv, nv, bytesD, VL, VB, BEq.rfl, V1, V2, V3, V4, V5, V6, V7, V8, V9, V10, V11, V12, VE, Nat.reduceBEq, Nat.reduceAdd, Nat.reduceSub, Nat.reduceMul, Nat.reduceLeDiff, Nat.reduceLT, Nat.reduceEqDiff, Int.reduceBEq, Int.reduceBNe, Int.reduceLT, Int.reduceLE, Int.reduceAdd, Int.reduceSub, Int.reduceMul, kAgg, scD, List.all_cons, List.all_nil]
          refine ⟨⟨Int.natCast_nonneg k, hk'⟩, Int.natCast_nonneg k, by omega, ?_⟩
          refine guardB.mk (fun h => ?_) (fun h => ?_) <;> simp only [h, nums, rowsS, nodes, zv, bv, sv, nv, bytesD, VL, VB, BEq.rfl, V1, V2, V3, V4, V5, V6, V7, V8, V9, V10, V11, V12, VE, Nat.reduceBEq, Nat.reduceAdd, Nat.reduceSub, Nat.reduceMul, Nat.reduceLeDiff, Nat.reduceLT, Nat.reduceEqDiff, Int.reduceBEq, Int.reduceBNe, Int.reduceLT, Int.reduceLE, Int.reduceAdd, Int.reduceSub, Int.reduceMul, kAgg, scD, List.all_cons, List.all_nil]
          · have h1 : 0 ≤ w := by simpa using h
            have h2 : (x != w) = false := by
              have : x = w := by omega
              rw [this]; simp
            simp only [getD_num B v (by omega), getD_num W k (by omega), hw, hx, h2, num_def, wrap_nat (k := k) (by omega), nums, rowsS, nodes, zv, bv, sv, nv, bytesD, VL, VB, BEq.rfl, V1, V2, V3, V4, V5, V6, V7, V8, V9, V10, V11, V12, VE, Nat.reduceBEq, Nat.reduceAdd, Nat.reduceSub, Nat.reduceMul, Nat.reduceLeDiff, Nat.reduceLT, Nat.reduceEqDiff, Int.reduceBEq, Int.reduceBNe, Int.reduceLT, Int.reduceLE, Int.reduceAdd, Int.reduceSub, Int.reduceMul, kAgg, scD, List.all_cons, List.all_nil]
            refine ⟨⟨Int.natCast_nonneg v, by omega⟩, Int.natCast_nonneg k, by omega, k + 1, Enter.id ?_, by omega, by show L.length - (k + 1) < L.length - k; omega⟩
            simp only [nums, rowsS, nodes, zv, bv, sv, nv, bytesD, VL, VB, BEq.rfl, V1, V2, V3, V4, V5, V6, V7, V8, V9, V10, V11, V12, VE, Nat.reduceBEq, Nat.reduceAdd, Nat.reduceSub, Nat.reduceMul, Nat.reduceLeDiff, Nat.reduceLT, Nat.reduceEqDiff, Int.reduceBEq, Int.reduceBNe, Int.reduceLT, Int.reduceLE, Int.reduceAdd, Int.reduceSub, Int.reduceMul, kAgg, scD, List.all_cons, List.all_nil]
          · simp only [wrap_nat (k := k) (by omega), nums, rowsS, nodes, zv, bv, sv, nv, bytesD, VL, VB, BEq.rfl, V1, V2, V3, V4, V5, V6, V7, V8, V9, V10, V11, V12, VE, Nat.reduceBEq, Nat.reduceAdd, Nat.reduceSub, Nat.reduceMul, Nat.reduceLeDiff, Nat.reduceLT, Nat.reduceEqDiff, Int.reduceBEq, Int.reduceBNe, Int.reduceLT, Int.reduceLE, Int.reduceAdd, Int.reduceSub, Int.reduceMul, kAgg, scD, List.all_cons, List.all_nil]
            refine ⟨k + 1, Enter.id ?_, by omega, by show L.length - (k + 1) < L.length - k; omega⟩
            simp only [nums, rowsS, nodes, zv, bv, sv, nv, bytesD, VL, VB, BEq.rfl, V1, V2, V3, V4, V5, V6, V7, V8, V9, V10, V11, V12, VE, Nat.reduceBEq, Nat.reduceAdd, Nat.reduceSub, Nat.reduceMul, Nat.reduceLeDiff, Nat.reduceLT, Nat.reduceEqDiff, Int.reduceBEq, Int.reduceBNe, Int.reduceLT, Int.reduceLE, Int.reduceAdd, Int.reduceSub, Int.reduceMul, kAgg, scD, List.all_cons, List.all_nil]
        have hk' : k = L.length := by
          have : ¬ k < L.length := by simpa using h
          omega
        subst hk'
        clear h
        simp only [nums, rowsS, nodes, zv, bv, sv, nv, bytesD, VL, VB, BEq.rfl, V1, V2, V3, V4, V5, V6, V7, V8, V9, V10, V11, V12, VE, Nat.reduceBEq, Nat.reduceAdd, Nat.reduceSub, Nat.reduceMul, Nat.reduceLeDiff, Nat.reduceLT, Nat.reduceEqDiff, Int.reduceBEq, Int.reduceBNe, Int.reduceLT, Int.reduceLE, Int.reduceAdd, Int.reduceSub, Int.reduceMul, kAgg, scD, List.all_cons, List.all_nil]
        refine CallX.mk (Cost_ok T M B hsm) rfl ?_
        simp only [hce, hcv, hBc, num_def, List.getD_cons_zero, nums, rowsS, nodes, zv, bv, sv, nv, bytesD, VL, VB, BEq.rfl, V1, V2, V3, V4, V5, V6, V7, V8, V9, V10, V11, V12, VE, Nat.reduceBEq, Nat.reduceAdd, Nat.reduceSub, Nat.reduceMul, Nat.reduceLeDiff, Nat.reduceLT, Nat.reduceEqDiff, Int.reduceBEq, Int.reduceBNe, Int.reduceLT, Int.reduceLE, Int.reduceAdd, Int.reduceSub, Int.reduceMul, kAgg, scD, List.all_cons, List.all_nil]
        refine ⟨by omega, ?_⟩
        refine CallX.mk (Given_ok T M W (b : Int) hsm) rfl ?_
        simp only [hge, hgv, ha, int_beq, nums, rowsS, nodes, zv, bv, sv, nv, bytesD, VL, VB, BEq.rfl, V1, V2, V3, V4, V5, V6, V7, V8, V9, V10, V11, V12, VE, Nat.reduceBEq, Nat.reduceAdd, Nat.reduceSub, Nat.reduceMul, Nat.reduceLeDiff, Nat.reduceLT, Nat.reduceEqDiff, Int.reduceBEq, Int.reduceBNe, Int.reduceLT, Int.reduceLE, Int.reduceAdd, Int.reduceSub, Int.reduceMul, kAgg, scD, List.all_cons, List.all_nil]
        refine CallX.mk works_ok rfl ?_
        simp only [nums, rowsS, nodes, zv, bv, sv, nv, bytesD, VL, VB, BEq.rfl, V1, V2, V3, V4, V5, V6, V7, V8, V9, V10, V11, V12, VE, Nat.reduceBEq, Nat.reduceAdd, Nat.reduceSub, Nat.reduceMul, Nat.reduceLeDiff, Nat.reduceLT, Nat.reduceEqDiff, Int.reduceBEq, Int.reduceBNe, Int.reduceLT, Int.reduceLE, Int.reduceAdd, Int.reduceSub, Int.reduceMul, kAgg, scD, List.all_cons, List.all_nil]
  · simp only [show (e != 0) = true by rw [h5]; rfl, show (e != 5) = false by rw [h5]; rfl, nums, rowsS, nodes, zv, bv, sv, nv, bytesD, VL, VB, BEq.rfl, V1, V2, V3, V4, V5, V6, V7, V8, V9, V10, V11, V12, VE, Nat.reduceBEq, Nat.reduceAdd, Nat.reduceSub, Nat.reduceMul, Nat.reduceLeDiff, Nat.reduceLT, Nat.reduceEqDiff, Int.reduceBEq, Int.reduceBNe, Int.reduceLT, Int.reduceLE, Int.reduceAdd, Int.reduceSub, Int.reduceMul, kAgg, scD, List.all_cons, List.all_nil]
    have hsz : (0 : Int) ≤ (T.length : Int) ∧ T.length * 8 ≤ 140737488355328 := by omega
    refine ⟨hsz, ?_⟩
    have hz0 : List.replicate T.length [D.sc (.int .i64 0)] = (baseL n os T.length 0).map num := by rw [baseL_zero, List.map_replicate]; rfl
    have hbl := baseL_len n os T.length
    simp only [hz0, hbl, nums, rowsS, nodes, zv, bv, sv, nv, bytesD, VL, VB, BEq.rfl, V1, V2, V3, V4, V5, V6, V7, V8, V9, V10, V11, V12, VE, Nat.reduceBEq, Nat.reduceAdd, Nat.reduceSub, Nat.reduceMul, Nat.reduceLeDiff, Nat.reduceLT, Nat.reduceEqDiff, Int.reduceBEq, Int.reduceBNe, Int.reduceLT, Int.reduceLE, Int.reduceAdd, Int.reduceSub, Int.reduceMul, kAgg, scD, List.all_cons, List.all_nil]
    refine LoopVC.mk (Y := Nat) (fun k => k ≤ T.length) (fun k => ⟨[(3, .c (bytesD os)), (11, nv n), (13, .c (nums L)), (12, .c (nodes T)), (14, .c (rowsS M)), (15, .osl 47 0), (16, zv a), (18, .c (nums B)), (20, .c (nums R)), (17, zv e), (22, .osl 87 0), (89, nv T.length), (90, nv k)], [(47, .frz 0 (W.map num)), (87, .arr 3 0 ((baseL n os T.length k).map num))]⟩) (fun k => T.length - k) ⟨0, Enter.id ?_, by omega⟩ ?_
    · simp only [nums, rowsS, nodes, zv, bv, sv, nv, bytesD, VL, VB, BEq.rfl, V1, V2, V3, V4, V5, V6, V7, V8, V9, V10, V11, V12, VE, Nat.reduceBEq, Nat.reduceAdd, Nat.reduceSub, Nat.reduceMul, Nat.reduceLeDiff, Nat.reduceLT, Nat.reduceEqDiff, Int.reduceBEq, Int.reduceBNe, Int.reduceLT, Int.reduceLE, Int.reduceAdd, Int.reduceSub, Int.reduceMul, kAgg, scD, List.all_cons, List.all_nil]
      rfl
    · intro k hk
      simp only [lt_nat, nums, rowsS, nodes, zv, bv, sv, nv, bytesD, VL, VB, BEq.rfl, V1, V2, V3, V4, V5, V6, V7, V8, V9, V10, V11, V12, VE, Nat.reduceBEq, Nat.reduceAdd, Nat.reduceSub, Nat.reduceMul, Nat.reduceLeDiff, Nat.reduceLT, Nat.reduceEqDiff, Int.reduceBEq, Int.reduceBNe, Int.reduceLT, Int.reduceLE, Int.reduceAdd, Int.reduceSub, Int.reduceMul, kAgg, scD, List.all_cons, List.all_nil]
      refine guardB.mk (fun h => ?_) (fun h => ?_)
      · have hk' : k < T.length := by simpa using h
        clear h
        have hset := baseL_set (n := n) (l := os) hk'
        have hbk := hbl k
        have hbn : baseN n os k = if os = [] then ((k % n : Nat) : Int) else ((os.getD (k % os.length) 0 % n : Nat) : Int) := rfl
        obtain ⟨A, hA⟩ : ∃ A, baseL n os T.length k = A := ⟨_, rfl⟩
        rw [hA] at hset hbk
        have hm1 : Int.tmod (k : Int) (n : Int) = ((k % n : Nat) : Int) := tmodN k n
        have hm2 : Int.tmod (k : Int) (os.length : Int) = ((k % os.length : Nat) : Int) := tmodN k os.length
        have hg2 : decide ((0 : Int) < (os.length : Int)) = decide (os ≠ []) := by
          congr 1
          exact propext ⟨fun h e => by rw [e] at h; simp at h, fun h => by have := List.length_pos_iff.2 h; omega⟩
        have h1 : ((A.map num).getD k []).length = 1 := row_oneL A k (by omega)
        have h2 : ∀ x, (((A.set k x).map num).getD k []).length = 1 := fun x => row_oneL _ k (by rw [List.length_set]; omega)
        simp only [hA, hm1, hg2, set_numL, drop1_num, h1, hbk, nums, rowsS, nodes, zv, bv, sv, nv, bytesD, VL, VB, BEq.rfl, V1, V2, V3, V4, V5, V6, V7, V8, V9, V10, V11, V12, VE, Nat.reduceBEq, Nat.reduceAdd, Nat.reduceSub, Nat.reduceMul, Nat.reduceLeDiff, Nat.reduceLT, Nat.reduceEqDiff, Int.reduceBEq, Int.reduceBNe, Int.reduceLT, Int.reduceLE, Int.reduceAdd, Int.reduceSub, Int.reduceMul, kAgg, scD, List.all_cons, List.all_nil]
        refine ⟨by omega, Int.natCast_nonneg k, hk', hk', ?_⟩
        refine guardB.mk (fun h => ?_) (fun h => ?_) <;> simp only [h, nums, rowsS, nodes, zv, bv, sv, nv, bytesD, VL, VB, BEq.rfl, V1, V2, V3, V4, V5, V6, V7, V8, V9, V10, V11, V12, VE, Nat.reduceBEq, Nat.reduceAdd, Nat.reduceSub, Nat.reduceMul, Nat.reduceLeDiff, Nat.reduceLT, Nat.reduceEqDiff, Int.reduceBEq, Int.reduceBNe, Int.reduceLT, Int.reduceLE, Int.reduceAdd, Int.reduceSub, Int.reduceMul, kAgg, scD, List.all_cons, List.all_nil]
        · have h : os ≠ [] := by simpa using h
          have hpos := List.length_pos_iff.2 h
          have hlt : k % os.length < os.length := Nat.mod_lt _ hpos
          rw [if_neg h] at hbn
          obtain ⟨j, hj⟩ : ∃ j, k % os.length = j := ⟨_, rfl⟩
          rw [hj] at hm2 hlt hbn
          have hgj := getD_u8 os j hlt
          have hq256 := hos j
          obtain ⟨q, hq⟩ : ∃ q, os.getD j 0 = q := ⟨_, rfl⟩
          rw [hq] at hgj hq256 hbn
          have hwq : IntKind.i64.wrap (q : Int) = (q : Int) := wrap_in (by omega) (by omega)
          have hm3 : Int.tmod (q : Int) (n : Int) = ((q % n : Nat) : Int) := tmodN q n
          simp only [hm2, hgj, u8E_def, hwq, hm3, ← hbn, set_numL, List.set_set, hset, drop1_num, h2, List.length_set, hbk, wrap_nat (k := k) (by omega), nums, rowsS, nodes, zv, bv, sv, nv, bytesD, VL, VB, BEq.rfl, V1, V2, V3, V4, V5, V6, V7, V8, V9, V10, V11, V12, VE, Nat.reduceBEq, Nat.reduceAdd, Nat.reduceSub, Nat.reduceMul, Nat.reduceLeDiff, Nat.reduceLT, Nat.reduceEqDiff, Int.reduceBEq, Int.reduceBNe, Int.reduceLT, Int.reduceLE, Int.reduceAdd, Int.reduceSub, Int.reduceMul, kAgg, scD, List.all_cons, List.all_nil]
          refine ⟨by omega, ⟨Int.natCast_nonneg j, hlt⟩, by omega, Int.natCast_nonneg k, hk', hk', k + 1, Enter.id ?_, by omega, by show T.length - (k + 1) < T.length - k; omega⟩
          simp only [nums, rowsS, nodes, zv, bv, sv, nv, bytesD, VL, VB, BEq.rfl, V1, V2, V3, V4, V5, V6, V7, V8, V9, V10, V11, V12, VE, Nat.reduceBEq, Nat.reduceAdd, Nat.reduceSub, Nat.reduceMul, Nat.reduceLeDiff, Nat.reduceLT, Nat.reduceEqDiff, Int.reduceBEq, Int.reduceBNe, Int.reduceLT, Int.reduceLE, Int.reduceAdd, Int.reduceSub, Int.reduceMul, kAgg, scD, List.all_cons, List.all_nil]
        · have h : os = [] := by simpa using h
          rw [if_pos h] at hbn
          simp only [← hbn, hset, wrap_nat (k := k) (by omega), nums, rowsS, nodes, zv, bv, sv, nv, bytesD, VL, VB, BEq.rfl, V1, V2, V3, V4, V5, V6, V7, V8, V9, V10, V11, V12, VE, Nat.reduceBEq, Nat.reduceAdd, Nat.reduceSub, Nat.reduceMul, Nat.reduceLeDiff, Nat.reduceLT, Nat.reduceEqDiff, Int.reduceBEq, Int.reduceBNe, Int.reduceLT, Int.reduceLE, Int.reduceAdd, Int.reduceSub, Int.reduceMul, kAgg, scD, List.all_cons, List.all_nil]
          refine ⟨k + 1, Enter.id ?_, by omega, by show T.length - (k + 1) < T.length - k; omega⟩
          simp only [nums, rowsS, nodes, zv, bv, sv, nv, bytesD, VL, VB, BEq.rfl, V1, V2, V3, V4, V5, V6, V7, V8, V9, V10, V11, V12, VE, Nat.reduceBEq, Nat.reduceAdd, Nat.reduceSub, Nat.reduceMul, Nat.reduceLeDiff, Nat.reduceLT, Nat.reduceEqDiff, Int.reduceBEq, Int.reduceBNe, Int.reduceLT, Int.reduceLE, Int.reduceAdd, Int.reduceSub, Int.reduceMul, kAgg, scD, List.all_cons, List.all_nil]
      have hk' : k = T.length := by
        have : ¬ k < T.length := by simpa using h
        omega
      subst hk'
      clear h
      simp only [nums, rowsS, nodes, zv, bv, sv, nv, bytesD, VL, VB, BEq.rfl, V1, V2, V3, V4, V5, V6, V7, V8, V9, V10, V11, V12, VE, Nat.reduceBEq, Nat.reduceAdd, Nat.reduceSub, Nat.reduceMul, Nat.reduceLeDiff, Nat.reduceLT, Nat.reduceEqDiff, Int.reduceBEq, Int.reduceBNe, Int.reduceLT, Int.reduceLE, Int.reduceAdd, Int.reduceSub, Int.reduceMul, kAgg, scD, List.all_cons, List.all_nil]
      have hbl := hbl T.length
      have hab : ∀ v, v < T.length → 0 ≤ (baseL n os T.length T.length).getD v 0 ∧ (baseL n os T.length T.length).getD v 0 < n := fun v hv => by
        rw [baseL_at hv]; exact baseN_bd n os v hn0
      obtain ⟨A, hA⟩ : ∃ A, baseL n os T.length T.length = A := ⟨_, rfl⟩
      rw [hA] at hbl
      simp only [hA] at hab ⊢
      have hpl2 := putTo_len L W A
      refine LoopVC.mk (Y := Nat) (fun k => k ≤ L.length) (fun k => ⟨[(13, .c (nums L)), (12, .c (nodes T)), (14, .c (rowsS M)), (15, .osl 47 0), (16, zv a), (18, .c (nums B)), (20, .c (nums R)), (17, zv e), (22, .osl 87 0), (116, .c (nums L)), (117, nv L.length), (118, nv k)], [(47, .frz 0 (W.map num)), (87, .arr 3 0 ((putTo L W A k).map num))]⟩) (fun k => L.length - k) ⟨0, Enter.id ?_, by omega⟩ ?_
      · simp only [putTo, nums, rowsS, nodes, zv, bv, sv, nv, bytesD, VL, VB, BEq.rfl, V1, V2, V3, V4, V5, V6, V7, V8, V9, V10, V11, V12, VE, Nat.reduceBEq, Nat.reduceAdd, Nat.reduceSub, Nat.reduceMul, Nat.reduceLeDiff, Nat.reduceLT, Nat.reduceEqDiff, Int.reduceBEq, Int.reduceBNe, Int.reduceLT, Int.reduceLE, Int.reduceAdd, Int.reduceSub, Int.reduceMul, kAgg, scD, List.all_cons, List.all_nil]
        rfl
      intro k hk
      simp only [lt_nat, nums, rowsS, nodes, zv, bv, sv, nv, bytesD, VL, VB, BEq.rfl, V1, V2, V3, V4, V5, V6, V7, V8, V9, V10, V11, V12, VE, Nat.reduceBEq, Nat.reduceAdd, Nat.reduceSub, Nat.reduceMul, Nat.reduceLeDiff, Nat.reduceLT, Nat.reduceEqDiff, Int.reduceBEq, Int.reduceBNe, Int.reduceLT, Int.reduceLE, Int.reduceAdd, Int.reduceSub, Int.reduceMul, kAgg, scD, List.all_cons, List.all_nil]
      refine guardB.mk (fun h => ?_) (fun h => ?_)
      · have hk' : k < L.length := by simpa using h
        clear h
        obtain ⟨v, hv, hvn⟩ := hleafn k (by rw [hLe]; exact hk')
        rw [hLe] at hv
        have hps : putTo L W A (k + 1) = if 0 ≤ W.getD k 0 then (putTo L W A k).set v (W.getD k 0) else putTo L W A k := by rw [putTo, hv]; rfl
        have hpk := hpl2 k
        obtain ⟨P, hP⟩ : ∃ P, putTo L W A k = P := ⟨_, rfl⟩
        rw [hP] at hps hpk
        obtain ⟨w, hw⟩ : ∃ w, W.getD k 0 = w := ⟨_, rfl⟩
        rw [hw] at hps
        have h1 : ((P.map num).getD v []).length = 1 := row_oneL P v (by omega)
        simp only [hP, getD_num L k hk', hv, getD_num W k (by omega), hw, num_def, nums, rowsS, nodes, zv, bv, sv, nv, bytesD, VL, VB, BEq.rfl, V1, V2, V3, V4, V5, V6, V7, V8, V9, V10, V11, V12, VE, Nat.reduceBEq, Nat.reduceAdd, Nat.reduceSub, Nat.reduceMul, Nat.reduceLeDiff, Nat.reduceLT, Nat.reduceEqDiff, Int.reduceBEq, Int.reduceBNe, Int.reduceLT, Int.reduceLE, Int.reduceAdd, Int.reduceSub, Int.reduceMul, kAgg, scD, List.all_cons, List.all_nil]
        refine ⟨⟨Int.natCast_nonneg k, hk'⟩, Int.natCast_nonneg k, by omega, ?_⟩
        refine guardB.mk (fun h => ?_) (fun h => ?_) <;> simp only [h, nums, rowsS, nodes, zv, bv, sv, nv, bytesD, VL, VB, BEq.rfl, V1, V2, V3, V4, V5, V6, V7, V8, V9, V10, V11, V12, VE, Nat.reduceBEq, Nat.reduceAdd, Nat.reduceSub, Nat.reduceMul, Nat.reduceLeDiff, Nat.reduceLT, Nat.reduceEqDiff, Int.reduceBEq, Int.reduceBNe, Int.reduceLT, Int.reduceLE, Int.reduceAdd, Int.reduceSub, Int.reduceMul, kAgg, scD, List.all_cons, List.all_nil]
        · have h0 : 0 ≤ w := by simpa using h
          rw [if_pos h0] at hps
          simp only [getD_num W k (by omega), hw, num_def, set_numL, drop1_num, h1, ← hps, hpk, wrap_nat (k := k) (by omega), nums, rowsS, nodes, zv, bv, sv, nv, bytesD, VL, VB, BEq.rfl, V1, V2, V3, V4, V5, V6, V7, V8, V9, V10, V11, V12, VE, Nat.reduceBEq, Nat.reduceAdd, Nat.reduceSub, Nat.reduceMul, Nat.reduceLeDiff, Nat.reduceLT, Nat.reduceEqDiff, Int.reduceBEq, Int.reduceBNe, Int.reduceLT, Int.reduceLE, Int.reduceAdd, Int.reduceSub, Int.reduceMul, kAgg, scD, List.all_cons, List.all_nil]
          refine ⟨Int.natCast_nonneg k, by omega, Int.natCast_nonneg v, by omega, by omega, k + 1, Enter.id ?_, by omega, by show L.length - (k + 1) < L.length - k; omega⟩
          simp only [nums, rowsS, nodes, zv, bv, sv, nv, bytesD, VL, VB, BEq.rfl, V1, V2, V3, V4, V5, V6, V7, V8, V9, V10, V11, V12, VE, Nat.reduceBEq, Nat.reduceAdd, Nat.reduceSub, Nat.reduceMul, Nat.reduceLeDiff, Nat.reduceLT, Nat.reduceEqDiff, Int.reduceBEq, Int.reduceBNe, Int.reduceLT, Int.reduceLE, Int.reduceAdd, Int.reduceSub, Int.reduceMul, kAgg, scD, List.all_cons, List.all_nil]
        · have h0 : ¬ 0 ≤ w := by simpa using h
          rw [if_neg h0] at hps
          simp only [wrap_nat (k := k) (by omega), nums, rowsS, nodes, zv, bv, sv, nv, bytesD, VL, VB, BEq.rfl, V1, V2, V3, V4, V5, V6, V7, V8, V9, V10, V11, V12, VE, Nat.reduceBEq, Nat.reduceAdd, Nat.reduceSub, Nat.reduceMul, Nat.reduceLeDiff, Nat.reduceLT, Nat.reduceEqDiff, Int.reduceBEq, Int.reduceBNe, Int.reduceLT, Int.reduceLE, Int.reduceAdd, Int.reduceSub, Int.reduceMul, kAgg, scD, List.all_cons, List.all_nil]
          refine ⟨k + 1, Enter.id ?_, by omega, by show L.length - (k + 1) < L.length - k; omega⟩
          simp only [hps, nums, rowsS, nodes, zv, bv, sv, nv, bytesD, VL, VB, BEq.rfl, V1, V2, V3, V4, V5, V6, V7, V8, V9, V10, V11, V12, VE, Nat.reduceBEq, Nat.reduceAdd, Nat.reduceSub, Nat.reduceMul, Nat.reduceLeDiff, Nat.reduceLT, Nat.reduceEqDiff, Int.reduceBEq, Int.reduceBNe, Int.reduceLT, Int.reduceLE, Int.reduceAdd, Int.reduceSub, Int.reduceMul, kAgg, scD, List.all_cons, List.all_nil]
      have hk' : k = L.length := by
        have : ¬ k < L.length := by simpa using h
        omega
      subst hk'
      clear h
      have hpb := putTo_bd (L := L) (W := W) (A := A) (n := n) (fun v hv => hab v (by omega)) (fun k hk => (hWb k hk).2) L.length (by omega)
      have hpi := fun v => putTo_ini (t := T) (m := M) (W := W) (A := A) (by omega) (fun v hv => by rw [hLe, hml]; exact hpb v (by omega)) (fun k hk => (hWb k (by rw [hLe] at hk; omega)).1) (v := v)
      have hpk := hpl2 L.length
      simp only [hLe] at hpi
      obtain ⟨P, hP⟩ : ∃ P, putTo L W A L.length = P := ⟨_, rfl⟩
      rw [hP] at hpk
      simp only [hP] at hpb hpi ⊢
      have hcc := hcc P (by omega) (fun v hv => by rw [hml]; exact hpb v (by omega)) hpi
      have hol := hol P
      simp only [nums, rowsS, nodes, zv, bv, sv, nv, bytesD, VL, VB, BEq.rfl, V1, V2, V3, V4, V5, V6, V7, V8, V9, V10, V11, V12, VE, Nat.reduceBEq, Nat.reduceAdd, Nat.reduceSub, Nat.reduceMul, Nat.reduceLeDiff, Nat.reduceLT, Nat.reduceEqDiff, Int.reduceBEq, Int.reduceBNe, Int.reduceLT, Int.reduceLE, Int.reduceAdd, Int.reduceSub, Int.reduceMul, kAgg, scD, List.all_cons, List.all_nil]
      refine CallX.mk (Cost_ok T M P hsm) rfl ?_
      obtain ⟨u, hu⟩ : ∃ u, costV T M P = u := ⟨_, rfl⟩
      obtain ⟨q, hq⟩ : ∃ q, errV T M P = q := ⟨_, rfl⟩
      simp only [hu, hq] at hcc ⊢
      have hq5 : q = 5 := by
        rcases hcc with ⟨_, _, h⟩ | ⟨h, _⟩
        · have := (hol h).1; omega
        · exact h
      simp only [show (e != 0) = true by rw [h5]; rfl, hq5, nums, rowsS, nodes, zv, bv, sv, nv, bytesD, VL, VB, BEq.rfl, V1, V2, V3, V4, V5, V6, V7, V8, V9, V10, V11, V12, VE, Nat.reduceBEq, Nat.reduceAdd, Nat.reduceSub, Nat.reduceMul, Nat.reduceLeDiff, Nat.reduceLT, Nat.reduceEqDiff, Int.reduceBEq, Int.reduceBNe, Int.reduceLT, Int.reduceLE, Int.reduceAdd, Int.reduceSub, Int.reduceMul, kAgg, scD, List.all_cons, List.all_nil]
      refine CallX.mk works_ok rfl ?_
      simp only [nums, rowsS, nodes, zv, bv, sv, nv, bytesD, VL, VB, BEq.rfl, V1, V2, V3, V4, V5, V6, V7, V8, V9, V10, V11, V12, VE, Nat.reduceBEq, Nat.reduceAdd, Nat.reduceSub, Nat.reduceMul, Nat.reduceLeDiff, Nat.reduceLT, Nat.reduceEqDiff, Int.reduceBEq, Int.reduceBNe, Int.reduceLT, Int.reduceLE, Int.reduceAdd, Int.reduceSub, Int.reduceMul, kAgg, scD, List.all_cons, List.all_nil]

end Go.Cp
namespace Go.Proofs.Ytfalggfambgkeaa
open Go Go.Proofs Go.RowKit Go.ChangeShapes Go.WideShapes Go.ChangeAt Go.Vx Go.Cp

theorem sankoffLeast_lifted (os : Os) (started : os.Started) (H : Type) (enc : TypeId × Value → H) :
    ReturnsInHanded {} Try.checked os 8 .any (Rows.sankoffLeastSpec.pre6 enc Try.prog Try.f8 Rows.sankoffLeastRow.domain false) (Rows.sankoffLeastSpec.post enc Try.prog Try.f8 false true false false) := by
  refine law_lifted (m := 8) (tb := 4) os started H enc own laid (by kernel_rfl) Try.func8 rfl Try.underlying4 rfl ?_ (by kernel_rfl) (by kernel_rfl)
    (ChangeSpec.witness6 (enc := enc) (C := Try.checked) false ⟨#[], #[.slice none 0 0, .slice none 0 0, .slice none 0 0, .slice none 0 0, .int .u8 0], []⟩ 8 (by kernel_rfl) (by kernel_rfl) (by kernel_rfl) (by kernel_rfl)) ?_
  · rw [Try.params8]
    intro ds hd
    match ds, hd with
    | [d1, d2, d3, d4, d5], _ => exact ⟨rfl, rfl, rfl⟩
  · rw [Try.params8]
    intro dss h
    obtain ⟨x1, x2, x3, x4, x5, rfl, h1, h2, h3, h4, h5⟩ := typedL5 h
    obtain ⟨ps, rfl, hp, hpl⟩ := typed_bytes (m := 6) h1
    obtain ⟨cs, rfl, hcs, _⟩ := typed_bytes (m := 6) h2
    obtain ⟨ss, rfl, hss, _⟩ := typed_bytes (m := 6) h3
    obtain ⟨os, rfl, hos, _⟩ := typed_bytes (m := 6) h4
    obtain ⟨c, rfl, hc⟩ := typed_byte (m := 7) h5
    simp only [argsAV, argAV, Try.underlying22, Try.underlying5]
    exact least_law ps cs ss os c hp hpl hcs hss hos hc

theorem sankoffLeast_holds : Rows.SankoffLeastSaid :=
  OpenClaim.holds_of_wide 8 Try.f8 rfl rfl rfl rfl rfl rfl rfl ⟨rfl, rfl, rfl, rfl, rfl⟩ rfl rfl rfl rfl rfl (by kernel_rfl) Try.func8 (by kernel_rfl)
    (of_decide_eq_true (by kernel_rfl)) (by unfold Func.isWrapper; first | (rw [if_pos (by decide +kernel)]; kernel_rfl) | (rw [if_neg (by decide +kernel)]; exact ⟨rfl, rfl⟩))
    (fun os started H enc _ => sankoffLeast_lifted os started H enc)
#print axioms sankoffLeast_holds

end Go.Proofs.Ytfalggfambgkeaa
