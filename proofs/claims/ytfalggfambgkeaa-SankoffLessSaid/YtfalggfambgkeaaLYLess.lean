/-
  SankoffLess returns true for every input: if a leaf may have any state, the smallest cost does not become greater; if all may, the states of all nodes may be those of one leaf. Conditions: none.
-/
import Derived.Test.YtfalggfambgkeaaML
set_option linter.unusedVariables false
set_option linter.unusedSimpArgs false
set_option maxHeartbeats 8000000
set_option maxRecDepth 100000
namespace Go.Cp
open Go Go.Proofs Go.Vx

theorem set_num (w : List Int) (j : Nat) (x : Int) : (w.map num).set j [.sc (.int .i64 x)] = (w.set j x).map num := by rw [List.map_set]; rfl
def mixTo (w : List Int) (k : Nat) : List Int := List.replicate k (-1) ++ w.drop k
theorem mixTo_len {w : List Int} {k : Nat} (h : k ≤ w.length) : (mixTo w k).length = w.length := by simp [mixTo]; omega
theorem mixTo_set {w : List Int} {k : Nat} (h : k < w.length) : (mixTo w k).set k (-1) = mixTo w (k + 1) := by
  rw [mixTo, mixTo, List.set_append, if_neg (by simp), List.length_replicate, Nat.sub_self, List.drop_eq_getElem_cons h, List.set_cons_zero, List.replicate_succ', List.append_assoc]
  rfl
theorem mixTo_all (w : List Int) : mixTo w w.length = List.replicate w.length (-1) := by simp [mixTo]
theorem set_at {w : List Int} {j k : Nat} {x : Int} (h : k < w.length) : (w.set j x).getD k 0 = if j = k then x else w.getD k 0 := by
  simp only [List.getD, List.getElem?_set]
  by_cases e : j = k
  · rw [if_pos e, if_pos e, if_pos (by omega)]; rfl
  · rw [if_neg e, if_neg e]
theorem row_one (w : List Int) (k : Nat) (h : k < w.length) : ((w.map num).getD k []).length = 1 := by rw [getD_num w k h]; rfl

theorem less_law (ps cs ss : List Nat) (c lf : Nat) (hp : ∀ i, ps.getD i 0 < 256) (hpl : ps.length ≤ 9223372036854775807) (hcs : ∀ i, cs.getD i 0 < 256) (hss : ∀ i, ss.getD i 0 < 256) (hc : c < 256) (hlf : lf < 256) :
    Ok Try.prog E 4 [.c (bytesD ps), .c (bytesD cs), .c (bytesD ss), .c (.sc (.int .u8 c)), .c (.sc (.int .u8 lf))] (bv true) := by
  refine ok_of_vc (L := []) (ts := [10]) envOK mixed Try.func4 rfl (by kernel_rfl) rfl (by kernel_rfl) rfl fun hl => ?_
  obtain ⟨n, hn⟩ : ∃ n, 1 + c % 12 = n := ⟨_, rfl⟩
  have hn0 : 0 < n := by omega
  have hn12 : n ≤ 12 := by omega
  have w1 : IntKind.i64.wrap (c : Int) = (c : Int) := wrap_in (by omega) (by omega)
  have w2 : Int.tmod (c : Int) 12 = ((c % 12 : Nat) : Int) := tmodN c 12
  have w3 : IntKind.i64.wrap (1 + ((c % 12 : Nat) : Int)) = (n : Int) := by rw [wrap_in (by omega) (by omega)]; omega
  simp only [Try.f4, w1, w2, w3, nums, rowsS, nodes, zv, bv, sv, nv, bytesD, VL, VB, BEq.rfl, V1, V2, V3, V4, V5, V6, V7, V8, V9, V10, V11, V12, VE, Nat.reduceBEq, Nat.reduceAdd, Nat.reduceSub, Nat.reduceMul, Nat.reduceLeDiff, Nat.reduceLT, Nat.reduceEqDiff, Int.reduceBEq, Int.reduceBNe, Int.reduceLT, Int.reduceLE, Int.reduceAdd, Int.reduceSub, Int.reduceMul, kAgg, scD, List.all_cons, List.all_nil]
  refine ⟨by decide, ?_⟩
  refine CallX.mk (grown_ok ps 62 (by omega) hp hpl) rfl ?_
  simp only [nums, rowsS, nodes, zv, bv, sv, nv, bytesD, VL, VB, BEq.rfl, V1, V2, V3, V4, V5, V6, V7, V8, V9, V10, V11, V12, VE, Nat.reduceBEq, Nat.reduceAdd, Nat.reduceSub, Nat.reduceMul, Nat.reduceLeDiff, Nat.reduceLT, Nat.reduceEqDiff, Int.reduceBEq, Int.reduceBNe, Int.reduceLT, Int.reduceLE, Int.reduceAdd, Int.reduceSub, Int.reduceMul, kAgg, scD, List.all_cons, List.all_nil]
  refine CallX.mk (square_ok n cs true hn0 hn12 hcs) rfl ?_
  simp only [nums, rowsS, nodes, zv, bv, sv, nv, bytesD, VL, VB, BEq.rfl, V1, V2, V3, V4, V5, V6, V7, V8, V9, V10, V11, V12, VE, Nat.reduceBEq, Nat.reduceAdd, Nat.reduceSub, Nat.reduceMul, Nat.reduceLeDiff, Nat.reduceLT, Nat.reduceEqDiff, Int.reduceBEq, Int.reduceBNe, Int.reduceLT, Int.reduceLE, Int.reduceAdd, Int.reduceSub, Int.reduceMul, kAgg, scD, List.all_cons, List.all_nil]
  have hlp := leaves_pos (treeD_ok ps)
  have hll := leaves_len (treeD ps)
  have hnl : (treeD ps).length = min ps.length 62 + 1 := grownTo_len ps _
  refine CallX.mk (known_ok (leavesOf (treeD ps)) n ss hn0 hn12 (by omega) hss) rfl ?_
  have hck := drawn_check n ps cs ss hn0 hn12
  obtain ⟨W, hW⟩ : ∃ W, knownL n ss (leavesOf (treeD ps)).length = W := ⟨_, rfl⟩
  have hWl : W.length = (leavesOf (treeD ps)).length := by rw [← hW, knownL_len]
  have hWb : ∀ k, k < W.length → -1 ≤ W.getD k 0 ∧ W.getD k 0 < n := fun k hk => by
    rw [← hW, known_at (by omega)]; exact knownN_bd n ss k hn0
  have hchk : ∀ st : List Int, st.length = W.length → (∀ k, k < W.length → -1 ≤ st.getD k 0 ∧ st.getD k 0 < n) → checkE (treeD ps) (matD n cs) st = 0 := fun st h1 h2 =>
    check_of (treeD_ok ps) (square_okM n cs true hn0 hn12) (by omega) fun k hk => by rw [squareT_len]; exact h2 k (by omega)
  have hsm := treeD_small ps
  have hml : (matD n cs).length = n := squareT_len _ _ _ _
  have hrows := (okM_mat (square_okM n cs true hn0 hn12)).2.2.1
  have hmb := (okM_mat (square_okM n cs true hn0 hn12)).2.2.2
  have hcm : ∀ w : List Int, ∀ s, s < n → checkE (treeD ps) (matD n cs) (List.replicate W.length (-1)) = 0 → 0 ≤ cellAt (matD n cs) s s → _ := fun w s hs h1 h2 => const_min (k := W.length) h1 (by omega) h2
  obtain ⟨T, hT⟩ : ∃ T, treeD ps = T := ⟨_, rfl⟩
  obtain ⟨M, hM⟩ : ∃ M, matD n cs = M := ⟨_, rfl⟩
  simp only [hW] at hck ⊢
  simp only [hT, hM] at hck hchk hcm hlp hll hml hrows hmb hWl hsm hnl ⊢
  simp only [nums, rowsS, nodes, zv, bv, sv, nv, bytesD, VL, VB, BEq.rfl, V1, V2, V3, V4, V5, V6, V7, V8, V9, V10, V11, V12, VE, Nat.reduceBEq, Nat.reduceAdd, Nat.reduceSub, Nat.reduceMul, Nat.reduceLeDiff, Nat.reduceLT, Nat.reduceEqDiff, Int.reduceBEq, Int.reduceBNe, Int.reduceLT, Int.reduceLE, Int.reduceAdd, Int.reduceSub, Int.reduceMul, kAgg, scD, List.all_cons, List.all_nil]
  refine CallX.mk (Min_ok T M W hsm) rfl ?_
  obtain ⟨j, hj⟩ : ∃ j, lf % W.length = j := ⟨_, rfl⟩
  have hjl : j < W.length := by rw [← hj]; exact Nat.mod_lt _ (by omega)
  have w4 : IntKind.i64.wrap (lf : Int) = (lf : Int) := wrap_in (by omega) (by omega)
  have w5 : Int.tmod (lf : Int) (W.length : Int) = (j : Int) := by rw [tmodN, hj]
  obtain ⟨W2, hW2⟩ : ∃ W2, W.set j (-1) = W2 := ⟨_, rfl⟩
  have hW2l : W2.length = W.length := by rw [← hW2, List.length_set]
  have hW2a : ∀ k, k < W.length → W2.getD k 0 = -1 ∨ W2.getD k 0 = W.getD k 0 := fun k hk => by
    rw [← hW2, set_at hk]; split
    · exact .inl rfl
    · exact .inr rfl
  have hck2 := hchk W2 hW2l fun k hk => by have := hWb k hk; rcases hW2a k hk with e | e <;> omega
  have hck3 := hchk (List.replicate W.length (-1)) (by simp) fun k hk => by rw [rep_at hk]; omega
  have hm2 := fun he => min_mono (st := W) (st' := W2) hck2 he fun k hk => hW2a k (by omega)
  have hm3 := fun he => min_mono (st := W2) (st' := List.replicate W.length (-1)) hck3 he fun k hk => .inl (rep_at (by omega))
  have hcm := fun s hs => hcm [] s hs hck3
  have hec := err_cases hck3
  have hwp := ways_pos (t := T) (m := M) (st := List.replicate W.length (-1))
  have hone := fun (w : List Int) k => row_one w k
  simp only [w4, w5, set_num, hW2, hone W j hjl, drop1_num, nums, rowsS, nodes, zv, bv, sv, nv, bytesD, VL, VB, BEq.rfl, V1, V2, V3, V4, V5, V6, V7, V8, V9, V10, V11, V12, VE, Nat.reduceBEq, Nat.reduceAdd, Nat.reduceSub, Nat.reduceMul, Nat.reduceLeDiff, Nat.reduceLT, Nat.reduceEqDiff, Int.reduceBEq, Int.reduceBNe, Int.reduceLT, Int.reduceLE, Int.reduceAdd, Int.reduceSub, Int.reduceMul, kAgg, scD, List.all_cons, List.all_nil]
  refine ⟨by omega, Int.natCast_nonneg j, hjl, hjl, ?_⟩
  refine CallX.mk (Min_ok T M W2 hsm) rfl ?_
  have hev : ∀ st, errW T M st = if errP T M st = 0 then (if waysN T M st < 9223372036854775808 then 0 else 7) else errP T M st := fun st => rfl
  have hwv : ∀ st, waysV T M st = if errW T M st = 0 then (waysN T M st : Int) else 0 := fun st => rfl
  obtain ⟨a, ha⟩ : ∃ a, minV T M W = a := ⟨_, rfl⟩
  obtain ⟨b, hb⟩ : ∃ b, minV T M W2 = b := ⟨_, rfl⟩
  obtain ⟨e, he⟩ : ∃ e, errP T M W = e := ⟨_, rfl⟩
  obtain ⟨f, hf⟩ : ∃ f, errP T M W2 = f := ⟨_, rfl⟩
  simp only [ha, hb, he, hf] at hm2 hm3 ⊢
  simp only [bne, int_beq, nums, rowsS, nodes, zv, bv, sv, nv, bytesD, VL, VB, BEq.rfl, V1, V2, V3, V4, V5, V6, V7, V8, V9, V10, V11, V12, VE, Nat.reduceBEq, Nat.reduceAdd, Nat.reduceSub, Nat.reduceMul, Nat.reduceLeDiff, Nat.reduceLT, Nat.reduceEqDiff, Int.reduceBEq, Int.reduceBNe, Int.reduceLT, Int.reduceLE, Int.reduceAdd, Int.reduceSub, Int.reduceMul, kAgg, scD, List.all_cons, List.all_nil]
  refine guardB.mk (fun h => ?_) (fun h => ?_) <;> simp only [h, nums, rowsS, nodes, zv, bv, sv, nv, bytesD, VL, VB, BEq.rfl, V1, V2, V3, V4, V5, V6, V7, V8, V9, V10, V11, V12, VE, Nat.reduceBEq, Nat.reduceAdd, Nat.reduceSub, Nat.reduceMul, Nat.reduceLeDiff, Nat.reduceLT, Nat.reduceEqDiff, Int.reduceBEq, Int.reduceBNe, Int.reduceLT, Int.reduceLE, Int.reduceAdd, Int.reduceSub, Int.reduceMul, kAgg, scD, List.all_cons, List.all_nil]
  · have h1 : e = 0 := by simpa using h
    obtain ⟨h2, h3⟩ := hm2 h1
    simp only [bne, int_beq, decide_eq_true h2, decide_eq_false (show ¬ a < b by omega), nums, rowsS, nodes, zv, bv, sv, nv, bytesD, VL, VB, BEq.rfl, V1, V2, V3, V4, V5, V6, V7, V8, V9, V10, V11, V12, VE, Nat.reduceBEq, Nat.reduceAdd, Nat.reduceSub, Nat.reduceMul, Nat.reduceLeDiff, Nat.reduceLT, Nat.reduceEqDiff, Int.reduceBEq, Int.reduceBNe, Int.reduceLT, Int.reduceLE, Int.reduceAdd, Int.reduceSub, Int.reduceMul, kAgg, scD, List.all_cons, List.all_nil]
    refine LoopVC.mk (Y := Nat) (fun k => k ≤ W2.length) (fun k => ⟨[(11, nv n), (12, .c (nodes T)), (14, .c (rowsS M)), (15, .osl 42 0), (18, zv b), (19, zv f), (76, nv W2.length), (77, nv k)], [(42, .arr 3 0 ((mixTo W2 k).map num))]⟩) (fun k => W2.length - k) ⟨0, Enter.id ?_, by omega⟩ ?_
    · have e0 : mixTo W2 0 = W2 := by simp [mixTo]
      simp only [e0, nums, rowsS, nodes, zv, bv, sv, nv, bytesD, VL, VB, BEq.rfl, V1, V2, V3, V4, V5, V6, V7, V8, V9, V10, V11, V12, VE, Nat.reduceBEq, Nat.reduceAdd, Nat.reduceSub, Nat.reduceMul, Nat.reduceLeDiff, Nat.reduceLT, Nat.reduceEqDiff, Int.reduceBEq, Int.reduceBNe, Int.reduceLT, Int.reduceLE, Int.reduceAdd, Int.reduceSub, Int.reduceMul, kAgg, scD, List.all_cons, List.all_nil]
      rfl
    intro k hk
    simp only [lt_nat, nums, rowsS, nodes, zv, bv, sv, nv, bytesD, VL, VB, BEq.rfl, V1, V2, V3, V4, V5, V6, V7, V8, V9, V10, V11, V12, VE, Nat.reduceBEq, Nat.reduceAdd, Nat.reduceSub, Nat.reduceMul, Nat.reduceLeDiff, Nat.reduceLT, Nat.reduceEqDiff, Int.reduceBEq, Int.reduceBNe, Int.reduceLT, Int.reduceLE, Int.reduceAdd, Int.reduceSub, Int.reduceMul, kAgg, scD, List.all_cons, List.all_nil]
    refine guardB.mk (fun h => ?_) (fun h => ?_)
    · have hk' : k < W2.length := by simpa using h
      clear h
      have hml2 := mixTo_len hk
      have hms := mixTo_set hk'
      simp only [hone (mixTo W2 k) k (by omega), set_num, hms, hml2, drop1_num, wrap_nat (k := k) (by omega), nums, rowsS, nodes, zv, bv, sv, nv, bytesD, VL, VB, BEq.rfl, V1, V2, V3, V4, V5, V6, V7, V8, V9, V10, V11, V12, VE, Nat.reduceBEq, Nat.reduceAdd, Nat.reduceSub, Nat.reduceMul, Nat.reduceLeDiff, Nat.reduceLT, Nat.reduceEqDiff, Int.reduceBEq, Int.reduceBNe, Int.reduceLT, Int.reduceLE, Int.reduceAdd, Int.reduceSub, Int.reduceMul, kAgg, scD, List.all_cons, List.all_nil]
      refine ⟨Int.natCast_nonneg k, hk', hk', k + 1, Enter.id ?_, by omega, by show W2.length - (k + 1) < W2.length - k; omega⟩
      simp only [nums, rowsS, nodes, zv, bv, sv, nv, bytesD, VL, VB, BEq.rfl, V1, V2, V3, V4, V5, V6, V7, V8, V9, V10, V11, V12, VE, Nat.reduceBEq, Nat.reduceAdd, Nat.reduceSub, Nat.reduceMul, Nat.reduceLeDiff, Nat.reduceLT, Nat.reduceEqDiff, Int.reduceBEq, Int.reduceBNe, Int.reduceLT, Int.reduceLE, Int.reduceAdd, Int.reduceSub, Int.reduceMul, kAgg, scD, List.all_cons, List.all_nil]
    have hk' : k = W2.length := by
      have : ¬ k < W2.length := by simpa using h
      omega
    subst hk'
    clear h
    rw [mixTo_all, hW2l]
    obtain ⟨W3, hW3⟩ : ∃ W3, List.replicate W.length (-1 : Int) = W3 := ⟨_, rfl⟩
    have hev3 := hev W3
    have hwv3 := hwv W3
    simp only [hW3] at hck3 hm3 hcm hec hwp ⊢
    simp only [nums, rowsS, nodes, zv, bv, sv, nv, bytesD, VL, VB, BEq.rfl, V1, V2, V3, V4, V5, V6, V7, V8, V9, V10, V11, V12, VE, Nat.reduceBEq, Nat.reduceAdd, Nat.reduceSub, Nat.reduceMul, Nat.reduceLeDiff, Nat.reduceLT, Nat.reduceEqDiff, Int.reduceBEq, Int.reduceBNe, Int.reduceLT, Int.reduceLE, Int.reduceAdd, Int.reduceSub, Int.reduceMul, kAgg, scD, List.all_cons, List.all_nil]
    refine CallX.mk (Min_ok T M W3 hsm) rfl ?_
    obtain ⟨d, hd⟩ : ∃ d, minV T M W3 = d := ⟨_, rfl⟩
    obtain ⟨g, hg⟩ : ∃ g, errP T M W3 = g := ⟨_, rfl⟩
    simp only [hd, hg] at hm3 hcm hec hwp hev3 ⊢
    simp only [bne, int_beq, nums, rowsS, nodes, zv, bv, sv, nv, bytesD, VL, VB, BEq.rfl, V1, V2, V3, V4, V5, V6, V7, V8, V9, V10, V11, V12, VE, Nat.reduceBEq, Nat.reduceAdd, Nat.reduceSub, Nat.reduceMul, Nat.reduceLeDiff, Nat.reduceLT, Nat.reduceEqDiff, Int.reduceBEq, Int.reduceBNe, Int.reduceLT, Int.reduceLE, Int.reduceAdd, Int.reduceSub, Int.reduceMul, kAgg, scD, List.all_cons, List.all_nil]
    refine guardB.mk (fun h => ?_) (fun h => ?_) <;> simp only [h, nums, rowsS, nodes, zv, bv, sv, nv, bytesD, VL, VB, BEq.rfl, V1, V2, V3, V4, V5, V6, V7, V8, V9, V10, V11, V12, VE, Nat.reduceBEq, Nat.reduceAdd, Nat.reduceSub, Nat.reduceMul, Nat.reduceLeDiff, Nat.reduceLT, Nat.reduceEqDiff, Int.reduceBEq, Int.reduceBNe, Int.reduceLT, Int.reduceLE, Int.reduceAdd, Int.reduceSub, Int.reduceMul, kAgg, scD, List.all_cons, List.all_nil]
    · have h1 : f = 0 := by simpa using h
      obtain ⟨h2, h3⟩ := hm3 h1
      simp only [bne, int_beq, decide_eq_true h2, decide_eq_false (show ¬ b < d by omega), nums, rowsS, nodes, zv, bv, sv, nv, bytesD, VL, VB, BEq.rfl, V1, V2, V3, V4, V5, V6, V7, V8, V9, V10, V11, V12, VE, Nat.reduceBEq, Nat.reduceAdd, Nat.reduceSub, Nat.reduceMul, Nat.reduceLeDiff, Nat.reduceLT, Nat.reduceEqDiff, Int.reduceBEq, Int.reduceBNe, Int.reduceLT, Int.reduceLE, Int.reduceAdd, Int.reduceSub, Int.reduceMul, kAgg, scD, List.all_cons, List.all_nil]
      refine LoopVC.mk (Y := Nat) (fun k => k ≤ n) (fun k => ⟨[(12, .c (nodes T)), (14, .c (rowsS M)), (15, .osl 42 0), (21, zv d), (22, zv g), (102, nv n), (103, nv k)], [(42, .arr 3 0 (W3.map num))]⟩) (fun k => n - k) ⟨0, Enter.id ?_, by omega⟩ ?_
      · simp only [nums, rowsS, nodes, zv, bv, sv, nv, bytesD, VL, VB, BEq.rfl, V1, V2, V3, V4, V5, V6, V7, V8, V9, V10, V11, V12, VE, Nat.reduceBEq, Nat.reduceAdd, Nat.reduceSub, Nat.reduceMul, Nat.reduceLeDiff, Nat.reduceLT, Nat.reduceEqDiff, Int.reduceBEq, Int.reduceBNe, Int.reduceLT, Int.reduceLE, Int.reduceAdd, Int.reduceSub, Int.reduceMul, kAgg, scD, List.all_cons, List.all_nil]
        rfl
      intro k hk
      simp only [lt_nat, nums, rowsS, nodes, zv, bv, sv, nv, bytesD, VL, VB, BEq.rfl, V1, V2, V3, V4, V5, V6, V7, V8, V9, V10, V11, V12, VE, Nat.reduceBEq, Nat.reduceAdd, Nat.reduceSub, Nat.reduceMul, Nat.reduceLeDiff, Nat.reduceLT, Nat.reduceEqDiff, Int.reduceBEq, Int.reduceBNe, Int.reduceLT, Int.reduceLE, Int.reduceAdd, Int.reduceSub, Int.reduceMul, kAgg, scD, List.all_cons, List.all_nil]
      refine guardB.mk (fun h => ?_) (fun h => ?_)
      · have hk' : k < n := by simpa using h
        clear h
        have hrow := hrows k (by omega)
        have hcell : (M.getD k []).getD k 0 = cellAt M k k := rfl
        have hcmk := hcm k hk'
        have hmbk := hmb k k
        obtain ⟨x, hx⟩ : ∃ x, cellAt M k k = x := ⟨_, rfl⟩
        rw [hx] at hcell hcmk hmbk
        have hw1 : IntKind.i64.wrap ((T.length : Int) - 1) = (T.length : Int) - 1 := wrap_in (by omega) (by omega)
        have hmul : -63 ≤ x * ((T.length : Int) - 1) ∧ x * ((T.length : Int) - 1) ≤ 1073741824 * 63 := by
          obtain ⟨q, hq⟩ : ∃ q : Nat, (T.length : Int) - 1 = (q : Int) := ⟨T.length - 1, by omega⟩
          rw [hq]
          have hq63 : q ≤ 62 := by omega
          constructor
          · rcases (show 0 ≤ x ∨ x < 0 by omega) with e | e
            · have := Int.mul_nonneg e (Int.natCast_nonneg q); omega
            · have e1 : x = -1 := by omega
              rw [e1]; omega
          · rcases (show 0 ≤ x ∨ x < 0 by omega) with e | e
            · have := Int.mul_le_mul hmbk.2 (show (q : Int) ≤ 63 by omega) (Int.natCast_nonneg q) (by omega)
              exact this
            · have e1 : x = -1 := by omega
              rw [e1]; omega
        have hw2 : IntKind.i64.wrap (x * ((T.length : Int) - 1)) = x * ((T.length : Int) - 1) := wrap_in (by omega) (by omega)
        simp only [getD_rowS M k (by omega), rowS_def, getD_num (M.getD k []) k (by omega), hcell, num_def, hml, hrow, nums, rowsS, nodes, zv, bv, sv, nv, bytesD, VL, VB, BEq.rfl, V1, V2, V3, V4, V5, V6, V7, V8, V9, V10, V11, V12, VE, Nat.reduceBEq, Nat.reduceAdd, Nat.reduceSub, Nat.reduceMul, Nat.reduceLeDiff, Nat.reduceLT, Nat.reduceEqDiff, Int.reduceBEq, Int.reduceBNe, Int.reduceLT, Int.reduceLE, Int.reduceAdd, Int.reduceSub, Int.reduceMul, kAgg, scD, List.all_cons, List.all_nil]
        refine ⟨⟨Int.natCast_nonneg k, hk'⟩, ⟨Int.natCast_nonneg k, by omega⟩, ?_⟩
        refine guardB.mk (fun h => ?_) (fun h => ?_) <;> simp only [h, nums, rowsS, nodes, zv, bv, sv, nv, bytesD, VL, VB, BEq.rfl, V1, V2, V3, V4, V5, V6, V7, V8, V9, V10, V11, V12, VE, Nat.reduceBEq, Nat.reduceAdd, Nat.reduceSub, Nat.reduceMul, Nat.reduceLeDiff, Nat.reduceLT, Nat.reduceEqDiff, Int.reduceBEq, Int.reduceBNe, Int.reduceLT, Int.reduceLE, Int.reduceAdd, Int.reduceSub, Int.reduceMul, kAgg, scD, List.all_cons, List.all_nil]
        · have h1 : 0 ≤ x := by simpa using h
          obtain ⟨h2, h3⟩ := hcmk h1
          simp only [bne, int_beq, decide_eq_true h2, hw1, hw2, decide_eq_false (show ¬ x * ((T.length : Int) - 1) < d by omega), wrap_nat (k := k) (by omega), nums, rowsS, nodes, zv, bv, sv, nv, bytesD, VL, VB, BEq.rfl, V1, V2, V3, V4, V5, V6, V7, V8, V9, V10, V11, V12, VE, Nat.reduceBEq, Nat.reduceAdd, Nat.reduceSub, Nat.reduceMul, Nat.reduceLeDiff, Nat.reduceLT, Nat.reduceEqDiff, Int.reduceBEq, Int.reduceBNe, Int.reduceLT, Int.reduceLE, Int.reduceAdd, Int.reduceSub, Int.reduceMul, kAgg, scD, List.all_cons, List.all_nil]
          refine ⟨k + 1, Enter.id ?_, by omega, by show n - (k + 1) < n - k; omega⟩
          simp only [nums, rowsS, nodes, zv, bv, sv, nv, bytesD, VL, VB, BEq.rfl, V1, V2, V3, V4, V5, V6, V7, V8, V9, V10, V11, V12, VE, Nat.reduceBEq, Nat.reduceAdd, Nat.reduceSub, Nat.reduceMul, Nat.reduceLeDiff, Nat.reduceLT, Nat.reduceEqDiff, Int.reduceBEq, Int.reduceBNe, Int.reduceLT, Int.reduceLE, Int.reduceAdd, Int.reduceSub, Int.reduceMul, kAgg, scD, List.all_cons, List.all_nil]
        · simp only [wrap_nat (k := k) (by omega), nums, rowsS, nodes, zv, bv, sv, nv, bytesD, VL, VB, BEq.rfl, V1, V2, V3, V4, V5, V6, V7, V8, V9, V10, V11, V12, VE, Nat.reduceBEq, Nat.reduceAdd, Nat.reduceSub, Nat.reduceMul, Nat.reduceLeDiff, Nat.reduceLT, Nat.reduceEqDiff, Int.reduceBEq, Int.reduceBNe, Int.reduceLT, Int.reduceLE, Int.reduceAdd, Int.reduceSub, Int.reduceMul, kAgg, scD, List.all_cons, List.all_nil]
          refine ⟨k + 1, Enter.id ?_, by omega, by show n - (k + 1) < n - k; omega⟩
          simp only [nums, rowsS, nodes, zv, bv, sv, nv, bytesD, VL, VB, BEq.rfl, V1, V2, V3, V4, V5, V6, V7, V8, V9, V10, V11, V12, VE, Nat.reduceBEq, Nat.reduceAdd, Nat.reduceSub, Nat.reduceMul, Nat.reduceLeDiff, Nat.reduceLT, Nat.reduceEqDiff, Int.reduceBEq, Int.reduceBNe, Int.reduceLT, Int.reduceLE, Int.reduceAdd, Int.reduceSub, Int.reduceMul, kAgg, scD, List.all_cons, List.all_nil]
      have hk' : k = n := by
        have : ¬ k < n := by simpa using h
        omega
      subst hk'
      clear h
      simp only [nums, rowsS, nodes, zv, bv, sv, nv, bytesD, VL, VB, BEq.rfl, V1, V2, V3, V4, V5, V6, V7, V8, V9, V10, V11, V12, VE, Nat.reduceBEq, Nat.reduceAdd, Nat.reduceSub, Nat.reduceMul, Nat.reduceLeDiff, Nat.reduceLT, Nat.reduceEqDiff, Int.reduceBEq, Int.reduceBNe, Int.reduceLT, Int.reduceLE, Int.reduceAdd, Int.reduceSub, Int.reduceMul, kAgg, scD, List.all_cons, List.all_nil]
      refine CallX.mk (Ways_ok T M W3 hsm) rfl ?_
      obtain ⟨u, hu⟩ : ∃ u, waysV T M W3 = u := ⟨_, rfl⟩
      obtain ⟨q, hq⟩ : ∃ q, errW T M W3 = q := ⟨_, rfl⟩
      obtain ⟨N, hN⟩ : ∃ N, waysN T M W3 = N := ⟨_, rfl⟩
      rw [hq, hN] at hev3
      rw [hu, hq, hN] at hwv3
      rw [hN] at hwp
      simp only [hu, hq]
      rcases hec with h0 | h5
      · have hpos := hwp h0
        rw [if_pos h0] at hev3
        by_cases hlt : N < 9223372036854775808
        · rw [if_pos hlt] at hev3
          rw [if_pos hev3] at hwv3
          simp only [int_beq, decide_eq_true hev3, decide_eq_true (show 0 < u by omega), nums, rowsS, nodes, zv, bv, sv, nv, bytesD, VL, VB, BEq.rfl, V1, V2, V3, V4, V5, V6, V7, V8, V9, V10, V11, V12, VE, Nat.reduceBEq, Nat.reduceAdd, Nat.reduceSub, Nat.reduceMul, Nat.reduceLeDiff, Nat.reduceLT, Nat.reduceEqDiff, Int.reduceBEq, Int.reduceBNe, Int.reduceLT, Int.reduceLE, Int.reduceAdd, Int.reduceSub, Int.reduceMul, kAgg, scD, List.all_cons, List.all_nil]
          refine CallX.mk works_ok rfl ?_
          simp only [nums, rowsS, nodes, zv, bv, sv, nv, bytesD, VL, VB, BEq.rfl, V1, V2, V3, V4, V5, V6, V7, V8, V9, V10, V11, V12, VE, Nat.reduceBEq, Nat.reduceAdd, Nat.reduceSub, Nat.reduceMul, Nat.reduceLeDiff, Nat.reduceLT, Nat.reduceEqDiff, Int.reduceBEq, Int.reduceBNe, Int.reduceLT, Int.reduceLE, Int.reduceAdd, Int.reduceSub, Int.reduceMul, kAgg, scD, List.all_cons, List.all_nil]
        · rw [if_neg hlt] at hev3
          rw [if_neg (by omega)] at hwv3
          simp only [hev3, hwv3, nums, rowsS, nodes, zv, bv, sv, nv, bytesD, VL, VB, BEq.rfl, V1, V2, V3, V4, V5, V6, V7, V8, V9, V10, V11, V12, VE, Nat.reduceBEq, Nat.reduceAdd, Nat.reduceSub, Nat.reduceMul, Nat.reduceLeDiff, Nat.reduceLT, Nat.reduceEqDiff, Int.reduceBEq, Int.reduceBNe, Int.reduceLT, Int.reduceLE, Int.reduceAdd, Int.reduceSub, Int.reduceMul, kAgg, scD, List.all_cons, List.all_nil]
          refine CallX.mk works_ok rfl ?_
          simp only [nums, rowsS, nodes, zv, bv, sv, nv, bytesD, VL, VB, BEq.rfl, V1, V2, V3, V4, V5, V6, V7, V8, V9, V10, V11, V12, VE, Nat.reduceBEq, Nat.reduceAdd, Nat.reduceSub, Nat.reduceMul, Nat.reduceLeDiff, Nat.reduceLT, Nat.reduceEqDiff, Int.reduceBEq, Int.reduceBNe, Int.reduceLT, Int.reduceLE, Int.reduceAdd, Int.reduceSub, Int.reduceMul, kAgg, scD, List.all_cons, List.all_nil]
      · rw [if_neg (by omega), h5] at hev3
        simp only [hev3, h5, nums, rowsS, nodes, zv, bv, sv, nv, bytesD, VL, VB, BEq.rfl, V1, V2, V3, V4, V5, V6, V7, V8, V9, V10, V11, V12, VE, Nat.reduceBEq, Nat.reduceAdd, Nat.reduceSub, Nat.reduceMul, Nat.reduceLeDiff, Nat.reduceLT, Nat.reduceEqDiff, Int.reduceBEq, Int.reduceBNe, Int.reduceLT, Int.reduceLE, Int.reduceAdd, Int.reduceSub, Int.reduceMul, kAgg, scD, List.all_cons, List.all_nil]
        refine CallX.mk works_ok rfl ?_
        simp only [nums, rowsS, nodes, zv, bv, sv, nv, bytesD, VL, VB, BEq.rfl, V1, V2, V3, V4, V5, V6, V7, V8, V9, V10, V11, V12, VE, Nat.reduceBEq, Nat.reduceAdd, Nat.reduceSub, Nat.reduceMul, Nat.reduceLeDiff, Nat.reduceLT, Nat.reduceEqDiff, Int.reduceBEq, Int.reduceBNe, Int.reduceLT, Int.reduceLE, Int.reduceAdd, Int.reduceSub, Int.reduceMul, kAgg, scD, List.all_cons, List.all_nil]
    · skip
      refine LoopVC.mk (Y := Nat) (fun k => k ≤ n) (fun k => ⟨[(12, .c (nodes T)), (14, .c (rowsS M)), (15, .osl 42 0), (21, zv d), (22, zv g), (102, nv n), (103, nv k)], [(42, .arr 3 0 (W3.map num))]⟩) (fun k => n - k) ⟨0, Enter.id ?_, by omega⟩ ?_
      · simp only [nums, rowsS, nodes, zv, bv, sv, nv, bytesD, VL, VB, BEq.rfl, V1, V2, V3, V4, V5, V6, V7, V8, V9, V10, V11, V12, VE, Nat.reduceBEq, Nat.reduceAdd, Nat.reduceSub, Nat.reduceMul, Nat.reduceLeDiff, Nat.reduceLT, Nat.reduceEqDiff, Int.reduceBEq, Int.reduceBNe, Int.reduceLT, Int.reduceLE, Int.reduceAdd, Int.reduceSub, Int.reduceMul, kAgg, scD, List.all_cons, List.all_nil]
        rfl
      intro k hk
      simp only [lt_nat, nums, rowsS, nodes, zv, bv, sv, nv, bytesD, VL, VB, BEq.rfl, V1, V2, V3, V4, V5, V6, V7, V8, V9, V10, V11, V12, VE, Nat.reduceBEq, Nat.reduceAdd, Nat.reduceSub, Nat.reduceMul, Nat.reduceLeDiff, Nat.reduceLT, Nat.reduceEqDiff, Int.reduceBEq, Int.reduceBNe, Int.reduceLT, Int.reduceLE, Int.reduceAdd, Int.reduceSub, Int.reduceMul, kAgg, scD, List.all_cons, List.all_nil]
      refine guardB.mk (fun h => ?_) (fun h => ?_)
      · have hk' : k < n := by simpa using h
        clear h
        have hrow := hrows k (by omega)
        have hcell : (M.getD k []).getD k 0 = cellAt M k k := rfl
        have hcmk := hcm k hk'
        have hmbk := hmb k k
        obtain ⟨x, hx⟩ : ∃ x, cellAt M k k = x := ⟨_, rfl⟩
        rw [hx] at hcell hcmk hmbk
        have hw1 : IntKind.i64.wrap ((T.length : Int) - 1) = (T.length : Int) - 1 := wrap_in (by omega) (by omega)
        have hmul : -63 ≤ x * ((T.length : Int) - 1) ∧ x * ((T.length : Int) - 1) ≤ 1073741824 * 63 := by
          obtain ⟨q, hq⟩ : ∃ q : Nat, (T.length : Int) - 1 = (q : Int) := ⟨T.length - 1, by omega⟩
          rw [hq]
          have hq63 : q ≤ 62 := by omega
          constructor
          · rcases (show 0 ≤ x ∨ x < 0 by omega) with e | e
            · have := Int.mul_nonneg e (Int.natCast_nonneg q); omega
            · have e1 : x = -1 := by omega
              rw [e1]; omega
          · rcases (show 0 ≤ x ∨ x < 0 by omega) with e | e
            · have := Int.mul_le_mul hmbk.2 (show (q : Int) ≤ 63 by omega) (Int.natCast_nonneg q) (by omega)
              exact this
            · have e1 : x = -1 := by omega
              rw [e1]; omega
        have hw2 : IntKind.i64.wrap (x * ((T.length : Int) - 1)) = x * ((T.length : Int) - 1) := wrap_in (by omega) (by omega)
        simp only [getD_rowS M k (by omega), rowS_def, getD_num (M.getD k []) k (by omega), hcell, num_def, hml, hrow, nums, rowsS, nodes, zv, bv, sv, nv, bytesD, VL, VB, BEq.rfl, V1, V2, V3, V4, V5, V6, V7, V8, V9, V10, V11, V12, VE, Nat.reduceBEq, Nat.reduceAdd, Nat.reduceSub, Nat.reduceMul, Nat.reduceLeDiff, Nat.reduceLT, Nat.reduceEqDiff, Int.reduceBEq, Int.reduceBNe, Int.reduceLT, Int.reduceLE, Int.reduceAdd, Int.reduceSub, Int.reduceMul, kAgg, scD, List.all_cons, List.all_nil]
        refine ⟨⟨Int.natCast_nonneg k, hk'⟩, ⟨Int.natCast_nonneg k, by omega⟩, ?_⟩
        refine guardB.mk (fun h => ?_) (fun h => ?_) <;> simp only [h, nums, rowsS, nodes, zv, bv, sv, nv, bytesD, VL, VB, BEq.rfl, V1, V2, V3, V4, V5, V6, V7, V8, V9, V10, V11, V12, VE, Nat.reduceBEq, Nat.reduceAdd, Nat.reduceSub, Nat.reduceMul, Nat.reduceLeDiff, Nat.reduceLT, Nat.reduceEqDiff, Int.reduceBEq, Int.reduceBNe, Int.reduceLT, Int.reduceLE, Int.reduceAdd, Int.reduceSub, Int.reduceMul, kAgg, scD, List.all_cons, List.all_nil]
        · have h1 : 0 ≤ x := by simpa using h
          obtain ⟨h2, h3⟩ := hcmk h1
          simp only [bne, int_beq, decide_eq_true h2, hw1, hw2, decide_eq_false (show ¬ x * ((T.length : Int) - 1) < d by omega), wrap_nat (k := k) (by omega), nums, rowsS, nodes, zv, bv, sv, nv, bytesD, VL, VB, BEq.rfl, V1, V2, V3, V4, V5, V6, V7, V8, V9, V10, V11, V12, VE, Nat.reduceBEq, Nat.reduceAdd, Nat.reduceSub, Nat.reduceMul, Nat.reduceLeDiff, Nat.reduceLT, Nat.reduceEqDiff, Int.reduceBEq, Int.reduceBNe, Int.reduceLT, Int.reduceLE, Int.reduceAdd, Int.reduceSub, Int.reduceMul, kAgg, scD, List.all_cons, List.all_nil]
          refine ⟨k + 1, Enter.id ?_, by omega, by show n - (k + 1) < n - k; omega⟩
          simp only [nums, rowsS, nodes, zv, bv, sv, nv, bytesD, VL, VB, BEq.rfl, V1, V2, V3, V4, V5, V6, V7, V8, V9, V10, V11, V12, VE, Nat.reduceBEq, Nat.reduceAdd, Nat.reduceSub, Nat.reduceMul, Nat.reduceLeDiff, Nat.reduceLT, Nat.reduceEqDiff, Int.reduceBEq, Int.reduceBNe, Int.reduceLT, Int.reduceLE, Int.reduceAdd, Int.reduceSub, Int.reduceMul, kAgg, scD, List.all_cons, List.all_nil]
        · simp only [wrap_nat (k := k) (by omega), nums, rowsS, nodes, zv, bv, sv, nv, bytesD, VL, VB, BEq.rfl, V1, V2, V3, V4, V5, V6, V7, V8, V9, V10, V11, V12, VE, Nat.reduceBEq, Nat.reduceAdd, Nat.reduceSub, Nat.reduceMul, Nat.reduceLeDiff, Nat.reduceLT, Nat.reduceEqDiff, Int.reduceBEq, Int.reduceBNe, Int.reduceLT, Int.reduceLE, Int.reduceAdd, Int.reduceSub, Int.reduceMul, kAgg, scD, List.all_cons, List.all_nil]
          refine ⟨k + 1, Enter.id ?_, by omega, by show n - (k + 1) < n - k; omega⟩
          simp only [nums, rowsS, nodes, zv, bv, sv, nv, bytesD, VL, VB, BEq.rfl, V1, V2, V3, V4, V5, V6, V7, V8, V9, V10, V11, V12, VE, Nat.reduceBEq, Nat.reduceAdd, Nat.reduceSub, Nat.reduceMul, Nat.reduceLeDiff, Nat.reduceLT, Nat.reduceEqDiff, Int.reduceBEq, Int.reduceBNe, Int.reduceLT, Int.reduceLE, Int.reduceAdd, Int.reduceSub, Int.reduceMul, kAgg, scD, List.all_cons, List.all_nil]
      have hk' : k = n := by
        have : ¬ k < n := by simpa using h
        omega
      subst hk'
      clear h
      simp only [nums, rowsS, nodes, zv, bv, sv, nv, bytesD, VL, VB, BEq.rfl, V1, V2, V3, V4, V5, V6, V7, V8, V9, V10, V11, V12, VE, Nat.reduceBEq, Nat.reduceAdd, Nat.reduceSub, Nat.reduceMul, Nat.reduceLeDiff, Nat.reduceLT, Nat.reduceEqDiff, Int.reduceBEq, Int.reduceBNe, Int.reduceLT, Int.reduceLE, Int.reduceAdd, Int.reduceSub, Int.reduceMul, kAgg, scD, List.all_cons, List.all_nil]
      refine CallX.mk (Ways_ok T M W3 hsm) rfl ?_
      obtain ⟨u, hu⟩ : ∃ u, waysV T M W3 = u := ⟨_, rfl⟩
      obtain ⟨q, hq⟩ : ∃ q, errW T M W3 = q := ⟨_, rfl⟩
      obtain ⟨N, hN⟩ : ∃ N, waysN T M W3 = N := ⟨_, rfl⟩
      rw [hq, hN] at hev3
      rw [hu, hq, hN] at hwv3
      rw [hN] at hwp
      simp only [hu, hq]
      rcases hec with h0 | h5
      · have hpos := hwp h0
        rw [if_pos h0] at hev3
        by_cases hlt : N < 9223372036854775808
        · rw [if_pos hlt] at hev3
          rw [if_pos hev3] at hwv3
          simp only [int_beq, decide_eq_true hev3, decide_eq_true (show 0 < u by omega), nums, rowsS, nodes, zv, bv, sv, nv, bytesD, VL, VB, BEq.rfl, V1, V2, V3, V4, V5, V6, V7, V8, V9, V10, V11, V12, VE, Nat.reduceBEq, Nat.reduceAdd, Nat.reduceSub, Nat.reduceMul, Nat.reduceLeDiff, Nat.reduceLT, Nat.reduceEqDiff, Int.reduceBEq, Int.reduceBNe, Int.reduceLT, Int.reduceLE, Int.reduceAdd, Int.reduceSub, Int.reduceMul, kAgg, scD, List.all_cons, List.all_nil]
          refine CallX.mk works_ok rfl ?_
          simp only [nums, rowsS, nodes, zv, bv, sv, nv, bytesD, VL, VB, BEq.rfl, V1, V2, V3, V4, V5, V6, V7, V8, V9, V10, V11, V12, VE, Nat.reduceBEq, Nat.reduceAdd, Nat.reduceSub, Nat.reduceMul, Nat.reduceLeDiff, Nat.reduceLT, Nat.reduceEqDiff, Int.reduceBEq, Int.reduceBNe, Int.reduceLT, Int.reduceLE, Int.reduceAdd, Int.reduceSub, Int.reduceMul, kAgg, scD, List.all_cons, List.all_nil]
        · rw [if_neg hlt] at hev3
          rw [if_neg (by omega)] at hwv3
          simp only [hev3, hwv3, nums, rowsS, nodes, zv, bv, sv, nv, bytesD, VL, VB, BEq.rfl, V1, V2, V3, V4, V5, V6, V7, V8, V9, V10, V11, V12, VE, Nat.reduceBEq, Nat.reduceAdd, Nat.reduceSub, Nat.reduceMul, Nat.reduceLeDiff, Nat.reduceLT, Nat.reduceEqDiff, Int.reduceBEq, Int.reduceBNe, Int.reduceLT, Int.reduceLE, Int.reduceAdd, Int.reduceSub, Int.reduceMul, kAgg, scD, List.all_cons, List.all_nil]
          refine CallX.mk works_ok rfl ?_
          simp only [nums, rowsS, nodes, zv, bv, sv, nv, bytesD, VL, VB, BEq.rfl, V1, V2, V3, V4, V5, V6, V7, V8, V9, V10, V11, V12, VE, Nat.reduceBEq, Nat.reduceAdd, Nat.reduceSub, Nat.reduceMul, Nat.reduceLeDiff, Nat.reduceLT, Nat.reduceEqDiff, Int.reduceBEq, Int.reduceBNe, Int.reduceLT, Int.reduceLE, Int.reduceAdd, Int.reduceSub, Int.reduceMul, kAgg, scD, List.all_cons, List.all_nil]
      · rw [if_neg (by omega), h5] at hev3
        simp only [hev3, h5, nums, rowsS, nodes, zv, bv, sv, nv, bytesD, VL, VB, BEq.rfl, V1, V2, V3, V4, V5, V6, V7, V8, V9, V10, V11, V12, VE, Nat.reduceBEq, Nat.reduceAdd, Nat.reduceSub, Nat.reduceMul, Nat.reduceLeDiff, Nat.reduceLT, Nat.reduceEqDiff, Int.reduceBEq, Int.reduceBNe, Int.reduceLT, Int.reduceLE, Int.reduceAdd, Int.reduceSub, Int.reduceMul, kAgg, scD, List.all_cons, List.all_nil]
        refine CallX.mk works_ok rfl ?_
        simp only [nums, rowsS, nodes, zv, bv, sv, nv, bytesD, VL, VB, BEq.rfl, V1, V2, V3, V4, V5, V6, V7, V8, V9, V10, V11, V12, VE, Nat.reduceBEq, Nat.reduceAdd, Nat.reduceSub, Nat.reduceMul, Nat.reduceLeDiff, Nat.reduceLT, Nat.reduceEqDiff, Int.reduceBEq, Int.reduceBNe, Int.reduceLT, Int.reduceLE, Int.reduceAdd, Int.reduceSub, Int.reduceMul, kAgg, scD, List.all_cons, List.all_nil]
  · have h1 : e ≠ 0 := by simpa using h
    refine LoopVC.mk (Y := Nat) (fun k => k ≤ W2.length) (fun k => ⟨[(11, nv n), (12, .c (nodes T)), (14, .c (rowsS M)), (15, .osl 42 0), (18, zv b), (19, zv f), (76, nv W2.length), (77, nv k)], [(42, .arr 3 0 ((mixTo W2 k).map num))]⟩) (fun k => W2.length - k) ⟨0, Enter.id ?_, by omega⟩ ?_
    · have e0 : mixTo W2 0 = W2 := by simp [mixTo]
      simp only [e0, nums, rowsS, nodes, zv, bv, sv, nv, bytesD, VL, VB, BEq.rfl, V1, V2, V3, V4, V5, V6, V7, V8, V9, V10, V11, V12, VE, Nat.reduceBEq, Nat.reduceAdd, Nat.reduceSub, Nat.reduceMul, Nat.reduceLeDiff, Nat.reduceLT, Nat.reduceEqDiff, Int.reduceBEq, Int.reduceBNe, Int.reduceLT, Int.reduceLE, Int.reduceAdd, Int.reduceSub, Int.reduceMul, kAgg, scD, List.all_cons, List.all_nil]
      rfl
    intro k hk
    simp only [lt_nat, nums, rowsS, nodes, zv, bv, sv, nv, bytesD, VL, VB, BEq.rfl, V1, V2, V3, V4, V5, V6, V7, V8, V9, V10, V11, V12, VE, Nat.reduceBEq, Nat.reduceAdd, Nat.reduceSub, Nat.reduceMul, Nat.reduceLeDiff, Nat.reduceLT, Nat.reduceEqDiff, Int.reduceBEq, Int.reduceBNe, Int.reduceLT, Int.reduceLE, Int.reduceAdd, Int.reduceSub, Int.reduceMul, kAgg, scD, List.all_cons, List.all_nil]
    refine guardB.mk (fun h => ?_) (fun h => ?_)
    · have hk' : k < W2.length := by simpa using h
      clear h
      have hml2 := mixTo_len hk
      have hms := mixTo_set hk'
      simp only [hone (mixTo W2 k) k (by omega), set_num, hms, hml2, drop1_num, wrap_nat (k := k) (by omega), nums, rowsS, nodes, zv, bv, sv, nv, bytesD, VL, VB, BEq.rfl, V1, V2, V3, V4, V5, V6, V7, V8, V9, V10, V11, V12, VE, Nat.reduceBEq, Nat.reduceAdd, Nat.reduceSub, Nat.reduceMul, Nat.reduceLeDiff, Nat.reduceLT, Nat.reduceEqDiff, Int.reduceBEq, Int.reduceBNe, Int.reduceLT, Int.reduceLE, Int.reduceAdd, Int.reduceSub, Int.reduceMul, kAgg, scD, List.all_cons, List.all_nil]
      refine ⟨Int.natCast_nonneg k, hk', hk', k + 1, Enter.id ?_, by omega, by show W2.length - (k + 1) < W2.length - k; omega⟩
      simp only [nums, rowsS, nodes, zv, bv, sv, nv, bytesD, VL, VB, BEq.rfl, V1, V2, V3, V4, V5, V6, V7, V8, V9, V10, V11, V12, VE, Nat.reduceBEq, Nat.reduceAdd, Nat.reduceSub, Nat.reduceMul, Nat.reduceLeDiff, Nat.reduceLT, Nat.reduceEqDiff, Int.reduceBEq, Int.reduceBNe, Int.reduceLT, Int.reduceLE, Int.reduceAdd, Int.reduceSub, Int.reduceMul, kAgg, scD, List.all_cons, List.all_nil]
    have hk' : k = W2.length := by
      have : ¬ k < W2.length := by simpa using h
      omega
    subst hk'
    clear h
    rw [mixTo_all, hW2l]
    obtain ⟨W3, hW3⟩ : ∃ W3, List.replicate W.length (-1 : Int) = W3 := ⟨_, rfl⟩
    have hev3 := hev W3
    have hwv3 := hwv W3
    simp only [hW3] at hck3 hm3 hcm hec hwp ⊢
    simp only [nums, rowsS, nodes, zv, bv, sv, nv, bytesD, VL, VB, BEq.rfl, V1, V2, V3, V4, V5, V6, V7, V8, V9, V10, V11, V12, VE, Nat.reduceBEq, Nat.reduceAdd, Nat.reduceSub, Nat.reduceMul, Nat.reduceLeDiff, Nat.reduceLT, Nat.reduceEqDiff, Int.reduceBEq, Int.reduceBNe, Int.reduceLT, Int.reduceLE, Int.reduceAdd, Int.reduceSub, Int.reduceMul, kAgg, scD, List.all_cons, List.all_nil]
    refine CallX.mk (Min_ok T M W3 hsm) rfl ?_
    obtain ⟨d, hd⟩ : ∃ d, minV T M W3 = d := ⟨_, rfl⟩
    obtain ⟨g, hg⟩ : ∃ g, errP T M W3 = g := ⟨_, rfl⟩
    simp only [hd, hg] at hm3 hcm hec hwp hev3 ⊢
    simp only [bne, int_beq, nums, rowsS, nodes, zv, bv, sv, nv, bytesD, VL, VB, BEq.rfl, V1, V2, V3, V4, V5, V6, V7, V8, V9, V10, V11, V12, VE, Nat.reduceBEq, Nat.reduceAdd, Nat.reduceSub, Nat.reduceMul, Nat.reduceLeDiff, Nat.reduceLT, Nat.reduceEqDiff, Int.reduceBEq, Int.reduceBNe, Int.reduceLT, Int.reduceLE, Int.reduceAdd, Int.reduceSub, Int.reduceMul, kAgg, scD, List.all_cons, List.all_nil]
    refine guardB.mk (fun h => ?_) (fun h => ?_) <;> simp only [h, nums, rowsS, nodes, zv, bv, sv, nv, bytesD, VL, VB, BEq.rfl, V1, V2, V3, V4, V5, V6, V7, V8, V9, V10, V11, V12, VE, Nat.reduceBEq, Nat.reduceAdd, Nat.reduceSub, Nat.reduceMul, Nat.reduceLeDiff, Nat.reduceLT, Nat.reduceEqDiff, Int.reduceBEq, Int.reduceBNe, Int.reduceLT, Int.reduceLE, Int.reduceAdd, Int.reduceSub, Int.reduceMul, kAgg, scD, List.all_cons, List.all_nil]
    · have h1 : f = 0 := by simpa using h
      obtain ⟨h2, h3⟩ := hm3 h1
      simp only [bne, int_beq, decide_eq_true h2, decide_eq_false (show ¬ b < d by omega), nums, rowsS, nodes, zv, bv, sv, nv, bytesD, VL, VB, BEq.rfl, V1, V2, V3, V4, V5, V6, V7, V8, V9, V10, V11, V12, VE, Nat.reduceBEq, Nat.reduceAdd, Nat.reduceSub, Nat.reduceMul, Nat.reduceLeDiff, Nat.reduceLT, Nat.reduceEqDiff, Int.reduceBEq, Int.reduceBNe, Int.reduceLT, Int.reduceLE, Int.reduceAdd, Int.reduceSub, Int.reduceMul, kAgg, scD, List.all_cons, List.all_nil]
      refine LoopVC.mk (Y := Nat) (fun k => k ≤ n) (fun k => ⟨[(12, .c (nodes T)), (14, .c (rowsS M)), (15, .osl 42 0), (21, zv d), (22, zv g), (102, nv n), (103, nv k)], [(42, .arr 3 0 (W3.map num))]⟩) (fun k => n - k) ⟨0, Enter.id ?_, by omega⟩ ?_
      · simp only [nums, rowsS, nodes, zv, bv, sv, nv, bytesD, VL, VB, BEq.rfl, V1, V2, V3, V4, V5, V6, V7, V8, V9, V10, V11, V12, VE, Nat.reduceBEq, Nat.reduceAdd, Nat.reduceSub, Nat.reduceMul, Nat.reduceLeDiff, Nat.reduceLT, Nat.reduceEqDiff, Int.reduceBEq, Int.reduceBNe, Int.reduceLT, Int.reduceLE, Int.reduceAdd, Int.reduceSub, Int.reduceMul, kAgg, scD, List.all_cons, List.all_nil]
        rfl
      intro k hk
      simp only [lt_nat, nums, rowsS, nodes, zv, bv, sv, nv, bytesD, VL, VB, BEq.rfl, V1, V2, V3, V4, V5, V6, V7, V8, V9, V10, V11, V12, VE, Nat.reduceBEq, Nat.reduceAdd, Nat.reduceSub, Nat.reduceMul, Nat.reduceLeDiff, Nat.reduceLT, Nat.reduceEqDiff, Int.reduceBEq, Int.reduceBNe, Int.reduceLT, Int.reduceLE, Int.reduceAdd, Int.reduceSub, Int.reduceMul, kAgg, scD, List.all_cons, List.all_nil]
      refine guardB.mk (fun h => ?_) (fun h => ?_)
      · have hk' : k < n := by simpa using h
        clear h
        have hrow := hrows k (by omega)
        have hcell : (M.getD k []).getD k 0 = cellAt M k k := rfl
        have hcmk := hcm k hk'
        have hmbk := hmb k k
        obtain ⟨x, hx⟩ : ∃ x, cellAt M k k = x := ⟨_, rfl⟩
        rw [hx] at hcell hcmk hmbk
        have hw1 : IntKind.i64.wrap ((T.length : Int) - 1) = (T.length : Int) - 1 := wrap_in (by omega) (by omega)
        have hmul : -63 ≤ x * ((T.length : Int) - 1) ∧ x * ((T.length : Int) - 1) ≤ 1073741824 * 63 := by
          obtain ⟨q, hq⟩ : ∃ q : Nat, (T.length : Int) - 1 = (q : Int) := ⟨T.length - 1, by omega⟩
          rw [hq]
          have hq63 : q ≤ 62 := by omega
          constructor
          · rcases (show 0 ≤ x ∨ x < 0 by omega) with e | e
            · have := Int.mul_nonneg e (Int.natCast_nonneg q); omega
            · have e1 : x = -1 := by omega
              rw [e1]; omega
          · rcases (show 0 ≤ x ∨ x < 0 by omega) with e | e
            · have := Int.mul_le_mul hmbk.2 (show (q : Int) ≤ 63 by omega) (Int.natCast_nonneg q) (by omega)
              exact this
            · have e1 : x = -1 := by omega
              rw [e1]; omega
        have hw2 : IntKind.i64.wrap (x * ((T.length : Int) - 1)) = x * ((T.length : Int) - 1) := wrap_in (by omega) (by omega)
        simp only [getD_rowS M k (by omega), rowS_def, getD_num (M.getD k []) k (by omega), hcell, num_def, hml, hrow, nums, rowsS, nodes, zv, bv, sv, nv, bytesD, VL, VB, BEq.rfl, V1, V2, V3, V4, V5, V6, V7, V8, V9, V10, V11, V12, VE, Nat.reduceBEq, Nat.reduceAdd, Nat.reduceSub, Nat.reduceMul, Nat.reduceLeDiff, Nat.reduceLT, Nat.reduceEqDiff, Int.reduceBEq, Int.reduceBNe, Int.reduceLT, Int.reduceLE, Int.reduceAdd, Int.reduceSub, Int.reduceMul, kAgg, scD, List.all_cons, List.all_nil]
        refine ⟨⟨Int.natCast_nonneg k, hk'⟩, ⟨Int.natCast_nonneg k, by omega⟩, ?_⟩
        refine guardB.mk (fun h => ?_) (fun h => ?_) <;> simp only [h, nums, rowsS, nodes, zv, bv, sv, nv, bytesD, VL, VB, BEq.rfl, V1, V2, V3, V4, V5, V6, V7, V8, V9, V10, V11, V12, VE, Nat.reduceBEq, Nat.reduceAdd, Nat.reduceSub, Nat.reduceMul, Nat.reduceLeDiff, Nat.reduceLT, Nat.reduceEqDiff, Int.reduceBEq, Int.reduceBNe, Int.reduceLT, Int.reduceLE, Int.reduceAdd, Int.reduceSub, Int.reduceMul, kAgg, scD, List.all_cons, List.all_nil]
        · have h1 : 0 ≤ x := by simpa using h
          obtain ⟨h2, h3⟩ := hcmk h1
          simp only [bne, int_beq, decide_eq_true h2, hw1, hw2, decide_eq_false (show ¬ x * ((T.length : Int) - 1) < d by omega), wrap_nat (k := k) (by omega), nums, rowsS, nodes, zv, bv, sv, nv, bytesD, VL, VB, BEq.rfl, V1, V2, V3, V4, V5, V6, V7, V8, V9, V10, V11, V12, VE, Nat.reduceBEq, Nat.reduceAdd, Nat.reduceSub, Nat.reduceMul, Nat.reduceLeDiff, Nat.reduceLT, Nat.reduceEqDiff, Int.reduceBEq, Int.reduceBNe, Int.reduceLT, Int.reduceLE, Int.reduceAdd, Int.reduceSub, Int.reduceMul, kAgg, scD, List.all_cons, List.all_nil]
          refine ⟨k + 1, Enter.id ?_, by omega, by show n - (k + 1) < n - k; omega⟩
          simp only [nums, rowsS, nodes, zv, bv, sv, nv, bytesD, VL, VB, BEq.rfl, V1, V2, V3, V4, V5, V6, V7, V8, V9, V10, V11, V12, VE, Nat.reduceBEq, Nat.reduceAdd, Nat.reduceSub, Nat.reduceMul, Nat.reduceLeDiff, Nat.reduceLT, Nat.reduceEqDiff, Int.reduceBEq, Int.reduceBNe, Int.reduceLT, Int.reduceLE, Int.reduceAdd, Int.reduceSub, Int.reduceMul, kAgg, scD, List.all_cons, List.all_nil]
        · simp only [wrap_nat (k := k) (by omega), nums, rowsS, nodes, zv, bv, sv, nv, bytesD, VL, VB, BEq.rfl, V1, V2, V3, V4, V5, V6, V7, V8, V9, V10, V11, V12, VE, Nat.reduceBEq, Nat.reduceAdd, Nat.reduceSub, Nat.reduceMul, Nat.reduceLeDiff, Nat.reduceLT, Nat.reduceEqDiff, Int.reduceBEq, Int.reduceBNe, Int.reduceLT, Int.reduceLE, Int.reduceAdd, Int.reduceSub, Int.reduceMul, kAgg, scD, List.all_cons, List.all_nil]
          refine ⟨k + 1, Enter.id ?_, by omega, by show n - (k + 1) < n - k; omega⟩
          simp only [nums, rowsS, nodes, zv, bv, sv, nv, bytesD, VL, VB, BEq.rfl, V1, V2, V3, V4, V5, V6, V7, V8, V9, V10, V11, V12, VE, Nat.reduceBEq, Nat.reduceAdd, Nat.reduceSub, Nat.reduceMul, Nat.reduceLeDiff, Nat.reduceLT, Nat.reduceEqDiff, Int.reduceBEq, Int.reduceBNe, Int.reduceLT, Int.reduceLE, Int.reduceAdd, Int.reduceSub, Int.reduceMul, kAgg, scD, List.all_cons, List.all_nil]
      have hk' : k = n := by
        have : ¬ k < n := by simpa using h
        omega
      subst hk'
      clear h
      simp only [nums, rowsS, nodes, zv, bv, sv, nv, bytesD, VL, VB, BEq.rfl, V1, V2, V3, V4, V5, V6, V7, V8, V9, V10, V11, V12, VE, Nat.reduceBEq, Nat.reduceAdd, Nat.reduceSub, Nat.reduceMul, Nat.reduceLeDiff, Nat.reduceLT, Nat.reduceEqDiff, Int.reduceBEq, Int.reduceBNe, Int.reduceLT, Int.reduceLE, Int.reduceAdd, Int.reduceSub, Int.reduceMul, kAgg, scD, List.all_cons, List.all_nil]
      refine CallX.mk (Ways_ok T M W3 hsm) rfl ?_
      obtain ⟨u, hu⟩ : ∃ u, waysV T M W3 = u := ⟨_, rfl⟩
      obtain ⟨q, hq⟩ : ∃ q, errW T M W3 = q := ⟨_, rfl⟩
      obtain ⟨N, hN⟩ : ∃ N, waysN T M W3 = N := ⟨_, rfl⟩
      rw [hq, hN] at hev3
      rw [hu, hq, hN] at hwv3
      rw [hN] at hwp
      simp only [hu, hq]
      rcases hec with h0 | h5
      · have hpos := hwp h0
        rw [if_pos h0] at hev3
        by_cases hlt : N < 9223372036854775808
        · rw [if_pos hlt] at hev3
          rw [if_pos hev3] at hwv3
          simp only [int_beq, decide_eq_true hev3, decide_eq_true (show 0 < u by omega), nums, rowsS, nodes, zv, bv, sv, nv, bytesD, VL, VB, BEq.rfl, V1, V2, V3, V4, V5, V6, V7, V8, V9, V10, V11, V12, VE, Nat.reduceBEq, Nat.reduceAdd, Nat.reduceSub, Nat.reduceMul, Nat.reduceLeDiff, Nat.reduceLT, Nat.reduceEqDiff, Int.reduceBEq, Int.reduceBNe, Int.reduceLT, Int.reduceLE, Int.reduceAdd, Int.reduceSub, Int.reduceMul, kAgg, scD, List.all_cons, List.all_nil]
          refine CallX.mk works_ok rfl ?_
          simp only [nums, rowsS, nodes, zv, bv, sv, nv, bytesD, VL, VB, BEq.rfl, V1, V2, V3, V4, V5, V6, V7, V8, V9, V10, V11, V12, VE, Nat.reduceBEq, Nat.reduceAdd, Nat.reduceSub, Nat.reduceMul, Nat.reduceLeDiff, Nat.reduceLT, Nat.reduceEqDiff, Int.reduceBEq, Int.reduceBNe, Int.reduceLT, Int.reduceLE, Int.reduceAdd, Int.reduceSub, Int.reduceMul, kAgg, scD, List.all_cons, List.all_nil]
        · rw [if_neg hlt] at hev3
          rw [if_neg (by omega)] at hwv3
          simp only [hev3, hwv3, nums, rowsS, nodes, zv, bv, sv, nv, bytesD, VL, VB, BEq.rfl, V1, V2, V3, V4, V5, V6, V7, V8, V9, V10, V11, V12, VE, Nat.reduceBEq, Nat.reduceAdd, Nat.reduceSub, Nat.reduceMul, Nat.reduceLeDiff, Nat.reduceLT, Nat.reduceEqDiff, Int.reduceBEq, Int.reduceBNe, Int.reduceLT, Int.reduceLE, Int.reduceAdd, Int.reduceSub, Int.reduceMul, kAgg, scD, List.all_cons, List.all_nil]
          refine CallX.mk works_ok rfl ?_
          simp only [nums, rowsS, nodes, zv, bv, sv, nv, bytesD, VL, VB, BEq.rfl, V1, V2, V3, V4, V5, V6, V7, V8, V9, V10, V11, V12, VE, Nat.reduceBEq, Nat.reduceAdd, Nat.reduceSub, Nat.reduceMul, Nat.reduceLeDiff, Nat.reduceLT, Nat.reduceEqDiff, Int.reduceBEq, Int.reduceBNe, Int.reduceLT, Int.reduceLE, Int.reduceAdd, Int.reduceSub, Int.reduceMul, kAgg, scD, List.all_cons, List.all_nil]
      · rw [if_neg (by omega), h5] at hev3
        simp only [hev3, h5, nums, rowsS, nodes, zv, bv, sv, nv, bytesD, VL, VB, BEq.rfl, V1, V2, V3, V4, V5, V6, V7, V8, V9, V10, V11, V12, VE, Nat.reduceBEq, Nat.reduceAdd, Nat.reduceSub, Nat.reduceMul, Nat.reduceLeDiff, Nat.reduceLT, Nat.reduceEqDiff, Int.reduceBEq, Int.reduceBNe, Int.reduceLT, Int.reduceLE, Int.reduceAdd, Int.reduceSub, Int.reduceMul, kAgg, scD, List.all_cons, List.all_nil]
        refine CallX.mk works_ok rfl ?_
        simp only [nums, rowsS, nodes, zv, bv, sv, nv, bytesD, VL, VB, BEq.rfl, V1, V2, V3, V4, V5, V6, V7, V8, V9, V10, V11, V12, VE, Nat.reduceBEq, Nat.reduceAdd, Nat.reduceSub, Nat.reduceMul, Nat.reduceLeDiff, Nat.reduceLT, Nat.reduceEqDiff, Int.reduceBEq, Int.reduceBNe, Int.reduceLT, Int.reduceLE, Int.reduceAdd, Int.reduceSub, Int.reduceMul, kAgg, scD, List.all_cons, List.all_nil]
    · skip
      refine LoopVC.mk (Y := Nat) (fun k => k ≤ n) (fun k => ⟨[(12, .c (nodes T)), (14, .c (rowsS M)), (15, .osl 42 0), (21, zv d), (22, zv g), (102, nv n), (103, nv k)], [(42, .arr 3 0 (W3.map num))]⟩) (fun k => n - k) ⟨0, Enter.id ?_, by omega⟩ ?_
      · simp only [nums, rowsS, nodes, zv, bv, sv, nv, bytesD, VL, VB, BEq.rfl, V1, V2, V3, V4, V5, V6, V7, V8, V9, V10, V11, V12, VE, Nat.reduceBEq, Nat.reduceAdd, Nat.reduceSub, Nat.reduceMul, Nat.reduceLeDiff, Nat.reduceLT, Nat.reduceEqDiff, Int.reduceBEq, Int.reduceBNe, Int.reduceLT, Int.reduceLE, Int.reduceAdd, Int.reduceSub, Int.reduceMul, kAgg, scD, List.all_cons, List.all_nil]
        rfl
      intro k hk
      simp only [lt_nat, nums, rowsS, nodes, zv, bv, sv, nv, bytesD, VL, VB, BEq.rfl, V1, V2, V3, V4, V5, V6, V7, V8, V9, V10, V11, V12, VE, Nat.reduceBEq, Nat.reduceAdd, Nat.reduceSub, Nat.reduceMul, Nat.reduceLeDiff, Nat.reduceLT, Nat.reduceEqDiff, Int.reduceBEq, Int.reduceBNe, Int.reduceLT, Int.reduceLE, Int.reduceAdd, Int.reduceSub, Int.reduceMul, kAgg, scD, List.all_cons, List.all_nil]
      refine guardB.mk (fun h => ?_) (fun h => ?_)
      · have hk' : k < n := by simpa using h
        clear h
        have hrow := hrows k (by omega)
        have hcell : (M.getD k []).getD k 0 = cellAt M k k := rfl
        have hcmk := hcm k hk'
        have hmbk := hmb k k
        obtain ⟨x, hx⟩ : ∃ x, cellAt M k k = x := ⟨_, rfl⟩
        rw [hx] at hcell hcmk hmbk
        have hw1 : IntKind.i64.wrap ((T.length : Int) - 1) = (T.length : Int) - 1 := wrap_in (by omega) (by omega)
        have hmul : -63 ≤ x * ((T.length : Int) - 1) ∧ x * ((T.length : Int) - 1) ≤ 1073741824 * 63 := by
          obtain ⟨q, hq⟩ : ∃ q : Nat, (T.length : Int) - 1 = (q : Int) := ⟨T.length - 1, by omega⟩
          rw [hq]
          have hq63 : q ≤ 62 := by omega
          constructor
          · rcases (show 0 ≤ x ∨ x < 0 by omega) with e | e
            · have := Int.mul_nonneg e (Int.natCast_nonneg q); omega
            · have e1 : x = -1 := by omega
              rw [e1]; omega
          · rcases (show 0 ≤ x ∨ x < 0 by omega) with e | e
            · have := Int.mul_le_mul hmbk.2 (show (q : Int) ≤ 63 by omega) (Int.natCast_nonneg q) (by omega)
              exact this
            · have e1 : x = -1 := by omega
              rw [e1]; omega
        have hw2 : IntKind.i64.wrap (x * ((T.length : Int) - 1)) = x * ((T.length : Int) - 1) := wrap_in (by omega) (by omega)
        simp only [getD_rowS M k (by omega), rowS_def, getD_num (M.getD k []) k (by omega), hcell, num_def, hml, hrow, nums, rowsS, nodes, zv, bv, sv, nv, bytesD, VL, VB, BEq.rfl, V1, V2, V3, V4, V5, V6, V7, V8, V9, V10, V11, V12, VE, Nat.reduceBEq, Nat.reduceAdd, Nat.reduceSub, Nat.reduceMul, Nat.reduceLeDiff, Nat.reduceLT, Nat.reduceEqDiff, Int.reduceBEq, Int.reduceBNe, Int.reduceLT, Int.reduceLE, Int.reduceAdd, Int.reduceSub, Int.reduceMul, kAgg, scD, List.all_cons, List.all_nil]
        refine ⟨⟨Int.natCast_nonneg k, hk'⟩, ⟨Int.natCast_nonneg k, by omega⟩, ?_⟩
        refine guardB.mk (fun h => ?_) (fun h => ?_) <;> simp only [h, nums, rowsS, nodes, zv, bv, sv, nv, bytesD, VL, VB, BEq.rfl, V1, V2, V3, V4, V5, V6, V7, V8, V9, V10, V11, V12, VE, Nat.reduceBEq, Nat.reduceAdd, Nat.reduceSub, Nat.reduceMul, Nat.reduceLeDiff, Nat.reduceLT, Nat.reduceEqDiff, Int.reduceBEq, Int.reduceBNe, Int.reduceLT, Int.reduceLE, Int.reduceAdd, Int.reduceSub, Int.reduceMul, kAgg, scD, List.all_cons, List.all_nil]
        · have h1 : 0 ≤ x := by simpa using h
          obtain ⟨h2, h3⟩ := hcmk h1
          simp only [bne, int_beq, decide_eq_true h2, hw1, hw2, decide_eq_false (show ¬ x * ((T.length : Int) - 1) < d by omega), wrap_nat (k := k) (by omega), nums, rowsS, nodes, zv, bv, sv, nv, bytesD, VL, VB, BEq.rfl, V1, V2, V3, V4, V5, V6, V7, V8, V9, V10, V11, V12, VE, Nat.reduceBEq, Nat.reduceAdd, Nat.reduceSub, Nat.reduceMul, Nat.reduceLeDiff, Nat.reduceLT, Nat.reduceEqDiff, Int.reduceBEq, Int.reduceBNe, Int.reduceLT, Int.reduceLE, Int.reduceAdd, Int.reduceSub, Int.reduceMul, kAgg, scD, List.all_cons, List.all_nil]
          refine ⟨k + 1, Enter.id ?_, by omega, by show n - (k + 1) < n - k; omega⟩
          simp only [nums, rowsS, nodes, zv, bv, sv, nv, bytesD, VL, VB, BEq.rfl, V1, V2, V3, V4, V5, V6, V7, V8, V9, V10, V11, V12, VE, Nat.reduceBEq, Nat.reduceAdd, Nat.reduceSub, Nat.reduceMul, Nat.reduceLeDiff, Nat.reduceLT, Nat.reduceEqDiff, Int.reduceBEq, Int.reduceBNe, Int.reduceLT, Int.reduceLE, Int.reduceAdd, Int.reduceSub, Int.reduceMul, kAgg, scD, List.all_cons, List.all_nil]
        · simp only [wrap_nat (k := k) (by omega), nums, rowsS, nodes, zv, bv, sv, nv, bytesD, VL, VB, BEq.rfl, V1, V2, V3, V4, V5, V6, V7, V8, V9, V10, V11, V12, VE, Nat.reduceBEq, Nat.reduceAdd, Nat.reduceSub, Nat.reduceMul, Nat.reduceLeDiff, Nat.reduceLT, Nat.reduceEqDiff, Int.reduceBEq, Int.reduceBNe, Int.reduceLT, Int.reduceLE, Int.reduceAdd, Int.reduceSub, Int.reduceMul, kAgg, scD, List.all_cons, List.all_nil]
          refine ⟨k + 1, Enter.id ?_, by omega, by show n - (k + 1) < n - k; omega⟩
          simp only [nums, rowsS, nodes, zv, bv, sv, nv, bytesD, VL, VB, BEq.rfl, V1, V2, V3, V4, V5, V6, V7, V8, V9, V10, V11, V12, VE, Nat.reduceBEq, Nat.reduceAdd, Nat.reduceSub, Nat.reduceMul, Nat.reduceLeDiff, Nat.reduceLT, Nat.reduceEqDiff, Int.reduceBEq, Int.reduceBNe, Int.reduceLT, Int.reduceLE, Int.reduceAdd, Int.reduceSub, Int.reduceMul, kAgg, scD, List.all_cons, List.all_nil]
      have hk' : k = n := by
        have : ¬ k < n := by simpa using h
        omega
      subst hk'
      clear h
      simp only [nums, rowsS, nodes, zv, bv, sv, nv, bytesD, VL, VB, BEq.rfl, V1, V2, V3, V4, V5, V6, V7, V8, V9, V10, V11, V12, VE, Nat.reduceBEq, Nat.reduceAdd, Nat.reduceSub, Nat.reduceMul, Nat.reduceLeDiff, Nat.reduceLT, Nat.reduceEqDiff, Int.reduceBEq, Int.reduceBNe, Int.reduceLT, Int.reduceLE, Int.reduceAdd, Int.reduceSub, Int.reduceMul, kAgg, scD, List.all_cons, List.all_nil]
      refine CallX.mk (Ways_ok T M W3 hsm) rfl ?_
      obtain ⟨u, hu⟩ : ∃ u, waysV T M W3 = u := ⟨_, rfl⟩
      obtain ⟨q, hq⟩ : ∃ q, errW T M W3 = q := ⟨_, rfl⟩
      obtain ⟨N, hN⟩ : ∃ N, waysN T M W3 = N := ⟨_, rfl⟩
      rw [hq, hN] at hev3
      rw [hu, hq, hN] at hwv3
      rw [hN] at hwp
      simp only [hu, hq]
      rcases hec with h0 | h5
      · have hpos := hwp h0
        rw [if_pos h0] at hev3
        by_cases hlt : N < 9223372036854775808
        · rw [if_pos hlt] at hev3
          rw [if_pos hev3] at hwv3
          simp only [int_beq, decide_eq_true hev3, decide_eq_true (show 0 < u by omega), nums, rowsS, nodes, zv, bv, sv, nv, bytesD, VL, VB, BEq.rfl, V1, V2, V3, V4, V5, V6, V7, V8, V9, V10, V11, V12, VE, Nat.reduceBEq, Nat.reduceAdd, Nat.reduceSub, Nat.reduceMul, Nat.reduceLeDiff, Nat.reduceLT, Nat.reduceEqDiff, Int.reduceBEq, Int.reduceBNe, Int.reduceLT, Int.reduceLE, Int.reduceAdd, Int.reduceSub, Int.reduceMul, kAgg, scD, List.all_cons, List.all_nil]
          refine CallX.mk works_ok rfl ?_
          simp only [nums, rowsS, nodes, zv, bv, sv, nv, bytesD, VL, VB, BEq.rfl, V1, V2, V3, V4, V5, V6, V7, V8, V9, V10, V11, V12, VE, Nat.reduceBEq, Nat.reduceAdd, Nat.reduceSub, Nat.reduceMul, Nat.reduceLeDiff, Nat.reduceLT, Nat.reduceEqDiff, Int.reduceBEq, Int.reduceBNe, Int.reduceLT, Int.reduceLE, Int.reduceAdd, Int.reduceSub, Int.reduceMul, kAgg, scD, List.all_cons, List.all_nil]
        · rw [if_neg hlt] at hev3
          rw [if_neg (by omega)] at hwv3
          simp only [hev3, hwv3, nums, rowsS, nodes, zv, bv, sv, nv, bytesD, VL, VB, BEq.rfl, V1, V2, V3, V4, V5, V6, V7, V8, V9, V10, V11, V12, VE, Nat.reduceBEq, Nat.reduceAdd, Nat.reduceSub, Nat.reduceMul, Nat.reduceLeDiff, Nat.reduceLT, Nat.reduceEqDiff, Int.reduceBEq, Int.reduceBNe, Int.reduceLT, Int.reduceLE, Int.reduceAdd, Int.reduceSub, Int.reduceMul, kAgg, scD, List.all_cons, List.all_nil]
          refine CallX.mk works_ok rfl ?_
          simp only [nums, rowsS, nodes, zv, bv, sv, nv, bytesD, VL, VB, BEq.rfl, V1, V2, V3, V4, V5, V6, V7, V8, V9, V10, V11, V12, VE, Nat.reduceBEq, Nat.reduceAdd, Nat.reduceSub, Nat.reduceMul, Nat.reduceLeDiff, Nat.reduceLT, Nat.reduceEqDiff, Int.reduceBEq, Int.reduceBNe, Int.reduceLT, Int.reduceLE, Int.reduceAdd, Int.reduceSub, Int.reduceMul, kAgg, scD, List.all_cons, List.all_nil]
      · rw [if_neg (by omega), h5] at hev3
        simp only [hev3, h5, nums, rowsS, nodes, zv, bv, sv, nv, bytesD, VL, VB, BEq.rfl, V1, V2, V3, V4, V5, V6, V7, V8, V9, V10, V11, V12, VE, Nat.reduceBEq, Nat.reduceAdd, Nat.reduceSub, Nat.reduceMul, Nat.reduceLeDiff, Nat.reduceLT, Nat.reduceEqDiff, Int.reduceBEq, Int.reduceBNe, Int.reduceLT, Int.reduceLE, Int.reduceAdd, Int.reduceSub, Int.reduceMul, kAgg, scD, List.all_cons, List.all_nil]
        refine CallX.mk works_ok rfl ?_
        simp only [nums, rowsS, nodes, zv, bv, sv, nv, bytesD, VL, VB, BEq.rfl, V1, V2, V3, V4, V5, V6, V7, V8, V9, V10, V11, V12, VE, Nat.reduceBEq, Nat.reduceAdd, Nat.reduceSub, Nat.reduceMul, Nat.reduceLeDiff, Nat.reduceLT, Nat.reduceEqDiff, Int.reduceBEq, Int.reduceBNe, Int.reduceLT, Int.reduceLE, Int.reduceAdd, Int.reduceSub, Int.reduceMul, kAgg, scD, List.all_cons, List.all_nil]

end Go.Cp
namespace Go.Proofs.Ytfalggfambgkeaa
open Go Go.Proofs Go.RowKit Go.ChangeShapes Go.WideShapes Go.ChangeAt Go.Vx Go.Cp

theorem sankoffLess_lifted (os : Os) (started : os.Started) (H : Type) (enc : TypeId × Value → H) :
    ReturnsInHanded {} Try.checked os 4 .any (Rows.sankoffLessSpec.pre6 enc Try.prog Try.f4 Rows.sankoffLessRow.domain false) (Rows.sankoffLessSpec.post enc Try.prog Try.f4 false true false false) := by
  refine law_lifted (m := 8) (tb := 4) os started H enc own laid (by kernel_rfl) Try.func4 rfl Try.underlying4 rfl ?_ (by kernel_rfl) (by kernel_rfl)
    (ChangeSpec.witness6 (enc := enc) (C := Try.checked) false ⟨#[], #[.slice none 0 0, .slice none 0 0, .slice none 0 0, .int .u8 0, .int .u8 0], []⟩ 8 (by kernel_rfl) (by kernel_rfl) (by kernel_rfl) (by kernel_rfl)) ?_
  · rw [Try.params4]
    intro ds hd
    match ds, hd with
    | [d1, d2, d3, d4, d5], _ => exact ⟨rfl, rfl, rfl⟩
  · rw [Try.params4]
    intro dss h
    obtain ⟨x1, x2, x3, x4, x5, rfl, h1, h2, h3, h4, h5⟩ := typedL5 h
    obtain ⟨ps, rfl, hp, hpl⟩ := typed_bytes (m := 6) h1
    obtain ⟨cs, rfl, hcs, _⟩ := typed_bytes (m := 6) h2
    obtain ⟨ss, rfl, hss, _⟩ := typed_bytes (m := 6) h3
    obtain ⟨c, rfl, hc⟩ := typed_byte (m := 7) h4
    obtain ⟨lf, rfl, hlf⟩ := typed_byte (m := 7) h5
    simp only [argsAV, argAV, Try.underlying22, Try.underlying5]
    exact less_law ps cs ss c lf hp hpl hcs hss hc hlf

theorem sankoffLess_holds : Rows.SankoffLessSaid :=
  OpenClaim.holds_of_wide 4 Try.f4 rfl rfl rfl rfl rfl rfl rfl ⟨rfl, rfl, rfl, rfl, rfl⟩ rfl rfl rfl rfl rfl (by kernel_rfl) Try.func4 (by kernel_rfl)
    (of_decide_eq_true (by kernel_rfl)) (by unfold Func.isWrapper; first | (rw [if_pos (by decide +kernel)]; kernel_rfl) | (rw [if_neg (by decide +kernel)]; exact ⟨rfl, rfl⟩))
    (fun os started H enc _ => sankoffLess_lifted os started H enc)
#print axioms sankoffLess_holds

end Go.Proofs.Ytfalggfambgkeaa
