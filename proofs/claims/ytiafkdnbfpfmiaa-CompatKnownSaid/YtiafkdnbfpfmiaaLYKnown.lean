/-
  CompatKnown returns true: the examples. Conditions: none.
-/
import Derived.Test.YtiafkdnbfpfmiaaMH
set_option linter.unusedVariables false
set_option linter.unusedSimpArgs false
set_option maxHeartbeats 8000000
set_option maxRecDepth 10000
namespace Go.Cp
open Go Go.Proofs Go.Vx

def wild : List Cell := [⟨-1, 0, 0⟩, ⟨3, 0, 0⟩, ⟨0, 1, 0⟩, ⟨1, 0, 1⟩, ⟨2, 1, 1⟩]

def knL : List Corr := rowsC [⟨#[112, 63]⟩, ⟨#[98, 63]⟩, ⟨#[63, 98]⟩, ⟨#[98, 112]⟩]
def knM : List Corr := ⟨rowC ⟨#[112, 63]⟩, 2⟩ :: rowsC [⟨#[98, 63]⟩, ⟨#[63, 98]⟩, ⟨#[98, 112]⟩]
def kn9 : List Corr := rowsC [⟨#[112]⟩, ⟨#[112]⟩, ⟨#[112]⟩, ⟨#[112]⟩, ⟨#[112]⟩, ⟨#[112]⟩, ⟨#[112]⟩, ⟨#[112]⟩, ⟨#[112]⟩]
theorem kn_set : (knL.map Corr.enc).set 0 (List.take 1 ((knL.map Corr.enc).getD 0 []) ++ .sc (.int .i64 2) :: List.drop 2 ((knL.map Corr.enc).getD 0 [])) = knM.map Corr.enc := by kernel_rfl
theorem kn_len : knL.length = 4 := by kernel_rfl
theorem kn_len2 : ((knL.map Corr.enc).getD 0 []).length = 2 := by kernel_rfl
theorem knM_len : knM.length = 4 := by kernel_rfl
theorem kn1 : checkC knM 256 = 0 := by kernel_rfl
theorem kn1a : (greedyAt knM 4).1 = [0, 1, 0, 1] := by kernel_rfl
theorem kn2 : patE (knM.take 3) [0, 1, 0] = 0 := by kernel_rfl
theorem kn2a : patO (knM.take 3) [0, 1, 0] = [⟨rowC ⟨#[112, 98]⟩, 3⟩, ⟨rowC ⟨#[98, 63]⟩, 1⟩] := by kernel_rfl
theorem kn3 : patE knM [0, 0, 2, 3] = 8 := by kernel_rfl
theorem kn4 : patE knM [0, 0, 1, 0] = 2 := by kernel_rfl
theorem kn5 : patE knM [0] = 2 := by kernel_rfl
theorem kn6 : checkC kn9 8 = 12 := by kernel_rfl
theorem kn7 : checkC [] 8 = 0 := by kernel_rfl
theorem kn7a : (lblC []).fd = [] := by kernel_rfl
theorem kn7b : (lblC []).be = 0 := by kernel_rfl
theorem kn8 : checkC (List.replicate 257 Corr.zero) 256 = 12 := by kernel_rfl
theorem kn9a : checkC [⟨[], -1⟩] 256 = 2 := by kernel_rfl
theorem kn10 : checkC [⟨[], 1073741825⟩] 256 = 2 := by kernel_rfl
theorem kn11 : predE (rowsC [⟨#[112, 98]⟩]) (rowC ⟨#[98, 63]⟩) = 5 := by kernel_rfl
theorem kn12 : predE [] (rowC ⟨#[63]⟩) = 5 := by kernel_rfl
theorem kn13 : checkC (rowsC [⟨#[112]⟩, ⟨#[112, 63]⟩]) 256 = 2 := by kernel_rfl
theorem kn14 : joinE (okTwo (rowC ⟨#[112]⟩) (rowC ⟨#[98]⟩)) (fitC (rowC ⟨#[112]⟩) (rowC ⟨#[98]⟩)) = 8 := by kernel_rfl
theorem knMb : ∀ c ∈ knM, c.cells.length * 16 ≤ 140737488355328 := bounded (by kernel_rfl)
theorem kn9b : ∀ c ∈ kn9, c.cells.length * 16 ≤ 140737488355328 := bounded (by kernel_rfl)
theorem wild_bad : ∀ i, i < 5 → (!validC (wild.getD i Cell.zero) && decide (checkC [⟨[wild.getD i Cell.zero], 0⟩] 256 = 2) && decide (checkC [⟨[wild.getD i Cell.zero], 0⟩] 8 = 2) && decide (patE [⟨[wild.getD i Cell.zero], 0⟩] [0] = 2) && decide (predE (rowsC [⟨#[63]⟩]) [wild.getD i Cell.zero] = 2)) = true := by
  have h : (List.range 5).all (fun i => !validC (wild.getD i Cell.zero) && decide (checkC [⟨[wild.getD i Cell.zero], 0⟩] 256 = 2) && decide (checkC [⟨[wild.getD i Cell.zero], 0⟩] 8 = 2) && decide (patE [⟨[wild.getD i Cell.zero], 0⟩] [0] = 2) && decide (predE (rowsC [⟨#[63]⟩]) [wild.getD i Cell.zero] = 2)) = true := by kernel_rfl
  exact fun i hi => List.all_eq_true.1 h i (List.mem_range.2 hi)

theorem known_law : Ok Try.prog E 11 [] (bv true) := by
  refine ok_of_vc (L := [(5, [(0, 2), (1, 2)]), (6, [(0, 1), (0, 2)]), (10, [(0, 2), (1, 2), (0, 3), (1, 3)])]) (ts := [0]) envOK mixed Try.func11 rfl (by kernel_rfl) rfl (by kernel_rfl) rfl fun hl => ?_
  simp only [Try.f11, bv, nv, List.append_eq, List.getD_cons_zero, List.getD_cons_succ, ← List.map_take, ← List.map_drop, List.all_cons, List.all_nil, Bool.cond_self, scD, valA, VL, VB, BEq.rfl, V1, V2, V3, V4, V5, V6, V7, V8, V9, V10, VE, Nat.reduceBEq, Nat.reduceAdd, Nat.reduceSub, Nat.reduceMul, Nat.reduceLeDiff, Nat.reduceLT, Nat.reduceEqDiff, Int.reduceBEq, Int.reduceBNe, Int.reduceLT, Int.reduceLE, Int.reduceAdd, Int.reduceSub, Int.reduceMul]
  refine LoopVC.cut (Y := Nat) (Z := Unit) 0 (fun i => i ≤ 5) (fun i => ⟨[(56, .osl 56 0), (57, .c (.sc (.int .i64 5))), (58, .c (.sc (.int .i64 i)))], [(56, .arr 57 0 (wild.map Cell.enc))]⟩) (fun i => 5 - i)
    (fun _ => True) (fun _ => ⟨[], []⟩) ⟨0, Enter.id ?_, Nat.zero_le _⟩ ?_ ?_
  · simp only [Option.isSome_some, bv, nv, List.append_eq, List.getD_cons_zero, List.getD_cons_succ, ← List.map_take, ← List.map_drop, List.all_cons, List.all_nil, Bool.cond_self, scD, valA, VL, VB, BEq.rfl, V1, V2, V3, V4, V5, V6, V7, V8, V9, V10, VE, Nat.reduceBEq, Nat.reduceAdd, Nat.reduceSub, Nat.reduceMul, Nat.reduceLeDiff, Nat.reduceLT, Nat.reduceEqDiff, Int.reduceBEq, Int.reduceBNe, Int.reduceLT, Int.reduceLE, Int.reduceAdd, Int.reduceSub, Int.reduceMul]
    exact ⟨⟨rfl, rfl, rfl⟩, rfl⟩
  · intro i hi
    have g5 : decide ((i : Int) < 5) = decide (i < 5) := lt_nat (b := 5)
    simp only [g5, bv, nv, List.append_eq, List.getD_cons_zero, List.getD_cons_succ, ← List.map_take, ← List.map_drop, List.all_cons, List.all_nil, Bool.cond_self, scD, valA, VL, VB, BEq.rfl, V1, V2, V3, V4, V5, V6, V7, V8, V9, V10, VE, Nat.reduceBEq, Nat.reduceAdd, Nat.reduceSub, Nat.reduceMul, Nat.reduceLeDiff, Nat.reduceLT, Nat.reduceEqDiff, Int.reduceBEq, Int.reduceBNe, Int.reduceLT, Int.reduceLE, Int.reduceAdd, Int.reduceSub, Int.reduceMul]
    refine guardB.mk (fun h1 => ?_) (fun h1 => ?_) <;> simp only [h1, bv, nv, List.append_eq, List.getD_cons_zero, List.getD_cons_succ, ← List.map_take, ← List.map_drop, List.all_cons, List.all_nil, Bool.cond_self, scD, valA, VL, VB, BEq.rfl, V1, V2, V3, V4, V5, V6, V7, V8, V9, V10, VE, Nat.reduceBEq, Nat.reduceAdd, Nat.reduceSub, Nat.reduceMul, Nat.reduceLeDiff, Nat.reduceLT, Nat.reduceEqDiff, Int.reduceBEq, Int.reduceBNe, Int.reduceLT, Int.reduceLE, Int.reduceAdd, Int.reduceSub, Int.reduceMul]
    · have hi5 : i < 5 := by simpa using h1
      have hiw : i < wild.length := hi5
      have hwi := wrap_nat (k := i) (by omega)
      obtain ⟨x, hx⟩ : ∃ x, wild.getD i Cell.zero = x := ⟨_, rfl⟩
      have hwb := wild_bad i hi5
      rw [hx] at hwb
      simp only [Bool.and_eq_true, decide_eq_true_eq, Bool.not_eq_true'] at hwb
      obtain ⟨⟨⟨⟨o0, o3⟩, o4⟩, o5⟩, o6⟩ := hwb
      have o1 : ∀ y, okTwo [x] y = false := fun y => by simp only [okTwo, List.all_cons, o0, Bool.false_and]
      have o2 : ∀ y, okTwo y [x] = false := fun y => by simp only [okTwo, List.all_cons, o0, Bool.false_and, Bool.and_false]
      have o7 : ∀ c ∈ [(⟨[x], 0⟩ : Corr)], c.cells.length * 16 ≤ 140737488355328 := fun c hc => by
        rw [List.mem_singleton.1 hc]; show 1 * 16 ≤ 140737488355328; omega
      simp only [getD_enc, hi5, hiw, hx, hwi, enc_def, o1, o2, o3, o4, o5, o6, joinE, Bool.false_eq_true, if_false, Bool.false_and, bv, nv, List.append_eq, List.getD_cons_zero, List.getD_cons_succ, ← List.map_take, ← List.map_drop, List.all_cons, List.all_nil, Bool.cond_self, scD, valA, VL, VB, BEq.rfl, V1, V2, V3, V4, V5, V6, V7, V8, V9, V10, VE, Nat.reduceBEq, Nat.reduceAdd, Nat.reduceSub, Nat.reduceMul, Nat.reduceLeDiff, Nat.reduceLT, Nat.reduceEqDiff, Int.reduceBEq, Int.reduceBNe, Int.reduceLT, Int.reduceLE, Int.reduceAdd, Int.reduceSub, Int.reduceMul]
      refine ⟨Int.natCast_nonneg i, ?_⟩
      refine CallX.mk (Ok.val (row_ok ⟨#[63]⟩ (by decide))) rfl ?_
      simp only [getD_enc, hi5, hiw, hx, hwi, enc_def, o1, o2, o3, o4, o5, o6, joinE, Bool.false_eq_true, if_false, Bool.false_and, bv, nv, List.append_eq, List.getD_cons_zero, List.getD_cons_succ, ← List.map_take, ← List.map_drop, List.all_cons, List.all_nil, Bool.cond_self, scD, valA, VL, VB, BEq.rfl, V1, V2, V3, V4, V5, V6, V7, V8, V9, V10, VE, Nat.reduceBEq, Nat.reduceAdd, Nat.reduceSub, Nat.reduceMul, Nat.reduceLeDiff, Nat.reduceLT, Nat.reduceEqDiff, Int.reduceBEq, Int.reduceBNe, Int.reduceLT, Int.reduceLE, Int.reduceAdd, Int.reduceSub, Int.reduceMul]
      refine CallX.mk (compatible_ok [x] _) rfl ?_
      simp only [getD_enc, hi5, hiw, hx, hwi, enc_def, o1, o2, o3, o4, o5, o6, joinE, Bool.false_eq_true, if_false, Bool.false_and, bv, nv, List.append_eq, List.getD_cons_zero, List.getD_cons_succ, ← List.map_take, ← List.map_drop, List.all_cons, List.all_nil, Bool.cond_self, scD, valA, VL, VB, BEq.rfl, V1, V2, V3, V4, V5, V6, V7, V8, V9, V10, VE, Nat.reduceBEq, Nat.reduceAdd, Nat.reduceSub, Nat.reduceMul, Nat.reduceLeDiff, Nat.reduceLT, Nat.reduceEqDiff, Int.reduceBEq, Int.reduceBNe, Int.reduceLT, Int.reduceLE, Int.reduceAdd, Int.reduceSub, Int.reduceMul]
      refine CallX.mk (Ok.val (row_ok ⟨#[63]⟩ (by decide))) rfl ?_
      simp only [getD_enc, hi5, hiw, hx, hwi, enc_def, o1, o2, o3, o4, o5, o6, joinE, Bool.false_eq_true, if_false, Bool.false_and, bv, nv, List.append_eq, List.getD_cons_zero, List.getD_cons_succ, ← List.map_take, ← List.map_drop, List.all_cons, List.all_nil, Bool.cond_self, scD, valA, VL, VB, BEq.rfl, V1, V2, V3, V4, V5, V6, V7, V8, V9, V10, VE, Nat.reduceBEq, Nat.reduceAdd, Nat.reduceSub, Nat.reduceMul, Nat.reduceLeDiff, Nat.reduceLT, Nat.reduceEqDiff, Int.reduceBEq, Int.reduceBNe, Int.reduceLT, Int.reduceLE, Int.reduceAdd, Int.reduceSub, Int.reduceMul]
      refine CallX.mk (Ok.vals (Join_ok (rowC ⟨#[63]⟩) [x] (by decide))) rfl ?_
      simp only [getD_enc, hi5, hiw, hx, hwi, enc_def, o1, o2, o3, o4, o5, o6, joinE, Bool.false_eq_true, if_false, Bool.false_and, bv, nv, List.append_eq, List.getD_cons_zero, List.getD_cons_succ, ← List.map_take, ← List.map_drop, List.all_cons, List.all_nil, Bool.cond_self, scD, valA, VL, VB, BEq.rfl, V1, V2, V3, V4, V5, V6, V7, V8, V9, V10, VE, Nat.reduceBEq, Nat.reduceAdd, Nat.reduceSub, Nat.reduceMul, Nat.reduceLeDiff, Nat.reduceLT, Nat.reduceEqDiff, Int.reduceBEq, Int.reduceBNe, Int.reduceLT, Int.reduceLE, Int.reduceAdd, Int.reduceSub, Int.reduceMul]
      refine CallX.mk (Ok.vals (greedy_ok [⟨[x], 0⟩] o7)) rfl ?_
      simp only [getD_enc, hi5, hiw, hx, hwi, enc_def, o1, o2, o3, o4, o5, o6, joinE, Bool.false_eq_true, if_false, Bool.false_and, bv, nv, List.append_eq, List.getD_cons_zero, List.getD_cons_succ, ← List.map_take, ← List.map_drop, List.all_cons, List.all_nil, Bool.cond_self, scD, valA, VL, VB, BEq.rfl, V1, V2, V3, V4, V5, V6, V7, V8, V9, V10, VE, Nat.reduceBEq, Nat.reduceAdd, Nat.reduceSub, Nat.reduceMul, Nat.reduceLeDiff, Nat.reduceLT, Nat.reduceEqDiff, Int.reduceBEq, Int.reduceBNe, Int.reduceLT, Int.reduceLE, Int.reduceAdd, Int.reduceSub, Int.reduceMul]
      refine CallX.mk (fewest_ok [⟨[x], 0⟩] o7) rfl ?_
      simp only [getD_enc, hi5, hiw, hx, hwi, enc_def, o1, o2, o3, o4, o5, o6, joinE, Bool.false_eq_true, if_false, Bool.false_and, bv, nv, List.append_eq, List.getD_cons_zero, List.getD_cons_succ, ← List.map_take, ← List.map_drop, List.all_cons, List.all_nil, Bool.cond_self, scD, valA, VL, VB, BEq.rfl, V1, V2, V3, V4, V5, V6, V7, V8, V9, V10, VE, Nat.reduceBEq, Nat.reduceAdd, Nat.reduceSub, Nat.reduceMul, Nat.reduceLeDiff, Nat.reduceLT, Nat.reduceEqDiff, Int.reduceBEq, Int.reduceBNe, Int.reduceLT, Int.reduceLE, Int.reduceAdd, Int.reduceSub, Int.reduceMul]
      refine CallX.mk (Ok.vals (patterns_ok [⟨[x], 0⟩] [0] o7)) rfl ?_
      simp only [getD_enc, hi5, hiw, hx, hwi, enc_def, o1, o2, o3, o4, o5, o6, joinE, Bool.false_eq_true, if_false, Bool.false_and, bv, nv, List.append_eq, List.getD_cons_zero, List.getD_cons_succ, ← List.map_take, ← List.map_drop, List.all_cons, List.all_nil, Bool.cond_self, scD, valA, VL, VB, BEq.rfl, V1, V2, V3, V4, V5, V6, V7, V8, V9, V10, VE, Nat.reduceBEq, Nat.reduceAdd, Nat.reduceSub, Nat.reduceMul, Nat.reduceLeDiff, Nat.reduceLT, Nat.reduceEqDiff, Int.reduceBEq, Int.reduceBNe, Int.reduceLT, Int.reduceLE, Int.reduceAdd, Int.reduceSub, Int.reduceMul]
      refine CallX.mk (Ok.val (rows_ok [⟨#[63]⟩] (by decide) (by decide))) rfl ?_
      simp only [getD_enc, hi5, hiw, hx, hwi, enc_def, o1, o2, o3, o4, o5, o6, joinE, Bool.false_eq_true, if_false, Bool.false_and, bv, nv, List.append_eq, List.getD_cons_zero, List.getD_cons_succ, ← List.map_take, ← List.map_drop, List.all_cons, List.all_nil, Bool.cond_self, scD, valA, VL, VB, BEq.rfl, V1, V2, V3, V4, V5, V6, V7, V8, V9, V10, VE, Nat.reduceBEq, Nat.reduceAdd, Nat.reduceSub, Nat.reduceMul, Nat.reduceLeDiff, Nat.reduceLT, Nat.reduceEqDiff, Int.reduceBEq, Int.reduceBNe, Int.reduceLT, Int.reduceLE, Int.reduceAdd, Int.reduceSub, Int.reduceMul]
      refine CallX.mk (Ok.vals (predict_ok (rowsC [⟨#[63]⟩]) [x] (bounded (by kernel_rfl)) (by simp))) rfl ?_
      simp only [getD_enc, hi5, hiw, hx, hwi, enc_def, o1, o2, o3, o4, o5, o6, joinE, Bool.false_eq_true, if_false, Bool.false_and, bv, nv, List.append_eq, List.getD_cons_zero, List.getD_cons_succ, ← List.map_take, ← List.map_drop, List.all_cons, List.all_nil, Bool.cond_self, scD, valA, VL, VB, BEq.rfl, V1, V2, V3, V4, V5, V6, V7, V8, V9, V10, VE, Nat.reduceBEq, Nat.reduceAdd, Nat.reduceSub, Nat.reduceMul, Nat.reduceLeDiff, Nat.reduceLT, Nat.reduceEqDiff, Int.reduceBEq, Int.reduceBNe, Int.reduceLT, Int.reduceLE, Int.reduceAdd, Int.reduceSub, Int.reduceMul]
      refine ⟨i + 1, Enter.id ?_, by omega, by show 5 - (i + 1) < 5 - i; omega⟩
      simp only [getD_enc, hi5, hiw, hx, hwi, enc_def, o1, o2, o3, o4, o5, o6, joinE, Bool.false_eq_true, if_false, Bool.false_and, bv, nv, List.append_eq, List.getD_cons_zero, List.getD_cons_succ, ← List.map_take, ← List.map_drop, List.all_cons, List.all_nil, Bool.cond_self, scD, valA, VL, VB, BEq.rfl, V1, V2, V3, V4, V5, V6, V7, V8, V9, V10, VE, Nat.reduceBEq, Nat.reduceAdd, Nat.reduceSub, Nat.reduceMul, Nat.reduceLeDiff, Nat.reduceLT, Nat.reduceEqDiff, Int.reduceBEq, Int.reduceBNe, Int.reduceLT, Int.reduceLE, Int.reduceAdd, Int.reduceSub, Int.reduceMul]
      done
    · refine ⟨(), Enter.id ?_, trivial⟩
      simp only [bv, nv, List.append_eq, List.getD_cons_zero, List.getD_cons_succ, ← List.map_take, ← List.map_drop, List.all_cons, List.all_nil, Bool.cond_self, scD, valA, VL, VB, BEq.rfl, V1, V2, V3, V4, V5, V6, V7, V8, V9, V10, VE, Nat.reduceBEq, Nat.reduceAdd, Nat.reduceSub, Nat.reduceMul, Nat.reduceLeDiff, Nat.reduceLT, Nat.reduceEqDiff, Int.reduceBEq, Int.reduceBNe, Int.reduceLT, Int.reduceLE, Int.reduceAdd, Int.reduceSub, Int.reduceMul]
      done
  · intro _ _
    simp only [bv, nv, List.append_eq, List.getD_cons_zero, List.getD_cons_succ, ← List.map_take, ← List.map_drop, List.all_cons, List.all_nil, Bool.cond_self, scD, valA, VL, VB, BEq.rfl, V1, V2, V3, V4, V5, V6, V7, V8, V9, V10, VE, Nat.reduceBEq, Nat.reduceAdd, Nat.reduceSub, Nat.reduceMul, Nat.reduceLeDiff, Nat.reduceLT, Nat.reduceEqDiff, Int.reduceBEq, Int.reduceBNe, Int.reduceLT, Int.reduceLE, Int.reduceAdd, Int.reduceSub, Int.reduceMul]
    refine CallX.mk (rows_ok [⟨#[112, 63]⟩, ⟨#[98, 63]⟩, ⟨#[63, 98]⟩, ⟨#[98, 112]⟩] (by decide) (by decide)) rfl ?_
    rw [show rowsC [⟨#[112, 63]⟩, ⟨#[98, 63]⟩, ⟨#[63, 98]⟩, ⟨#[98, 112]⟩] = knL from rfl]
    simp only [kn_len, kn_len2, kn_set, List.length_map, List.length_take, Nat.min_def, knM_len, if_true, if_false, bv, nv, List.append_eq, List.getD_cons_zero, List.getD_cons_succ, ← List.map_take, ← List.map_drop, List.all_cons, List.all_nil, Bool.cond_self, scD, valA, VL, VB, BEq.rfl, V1, V2, V3, V4, V5, V6, V7, V8, V9, V10, VE, Nat.reduceBEq, Nat.reduceAdd, Nat.reduceSub, Nat.reduceMul, Nat.reduceLeDiff, Nat.reduceLT, Nat.reduceEqDiff, Int.reduceBEq, Int.reduceBNe, Int.reduceLT, Int.reduceLE, Int.reduceAdd, Int.reduceSub, Int.reduceMul]
    refine CallX.mk (Ok.vals (greedy_ok knM knMb)) rfl ?_
    simp only [kn1, kn1a, kn_len, kn_len2, kn_set, List.length_map, List.length_take, Nat.min_def, knM_len, if_true, if_false, bv, nv, List.append_eq, List.getD_cons_zero, List.getD_cons_succ, ← List.map_take, ← List.map_drop, List.all_cons, List.all_nil, Bool.cond_self, scD, valA, VL, VB, BEq.rfl, V1, V2, V3, V4, V5, V6, V7, V8, V9, V10, VE, Nat.reduceBEq, Nat.reduceAdd, Nat.reduceSub, Nat.reduceMul, Nat.reduceLeDiff, Nat.reduceLT, Nat.reduceEqDiff, Int.reduceBEq, Int.reduceBNe, Int.reduceLT, Int.reduceLE, Int.reduceAdd, Int.reduceSub, Int.reduceMul]
    refine ⟨⟨by omega, allLen_corrs _⟩, ?_⟩
    refine CallX.mk (Ok.vals (patterns_ok (knM.take 3) [0, 1, 0] (fun c hc => knMb c (List.mem_of_mem_take hc)))) rfl ?_
    simp only [kn2, kn2a, kn_len, kn_len2, kn_set, List.length_map, List.length_take, Nat.min_def, knM_len, if_true, if_false, bv, nv, List.append_eq, List.getD_cons_zero, List.getD_cons_succ, ← List.map_take, ← List.map_drop, List.all_cons, List.all_nil, Bool.cond_self, scD, valA, VL, VB, BEq.rfl, V1, V2, V3, V4, V5, V6, V7, V8, V9, V10, VE, Nat.reduceBEq, Nat.reduceAdd, Nat.reduceSub, Nat.reduceMul, Nat.reduceLeDiff, Nat.reduceLT, Nat.reduceEqDiff, Int.reduceBEq, Int.reduceBNe, Int.reduceLT, Int.reduceLE, Int.reduceAdd, Int.reduceSub, Int.reduceMul]
    refine CallX.mk (Ok.vals (patterns_ok knM [0, 0, 2, 3] knMb)) rfl ?_
    simp only [kn3, kn_len, kn_len2, kn_set, List.length_map, List.length_take, Nat.min_def, knM_len, if_true, if_false, bv, nv, List.append_eq, List.getD_cons_zero, List.getD_cons_succ, ← List.map_take, ← List.map_drop, List.all_cons, List.all_nil, Bool.cond_self, scD, valA, VL, VB, BEq.rfl, V1, V2, V3, V4, V5, V6, V7, V8, V9, V10, VE, Nat.reduceBEq, Nat.reduceAdd, Nat.reduceSub, Nat.reduceMul, Nat.reduceLeDiff, Nat.reduceLT, Nat.reduceEqDiff, Int.reduceBEq, Int.reduceBNe, Int.reduceLT, Int.reduceLE, Int.reduceAdd, Int.reduceSub, Int.reduceMul]
    refine CallX.mk (Ok.vals (patterns_ok knM [0, 0, 1, 0] knMb)) rfl ?_
    simp only [kn4, kn_len, kn_len2, kn_set, List.length_map, List.length_take, Nat.min_def, knM_len, if_true, if_false, bv, nv, List.append_eq, List.getD_cons_zero, List.getD_cons_succ, ← List.map_take, ← List.map_drop, List.all_cons, List.all_nil, Bool.cond_self, scD, valA, VL, VB, BEq.rfl, V1, V2, V3, V4, V5, V6, V7, V8, V9, V10, VE, Nat.reduceBEq, Nat.reduceAdd, Nat.reduceSub, Nat.reduceMul, Nat.reduceLeDiff, Nat.reduceLT, Nat.reduceEqDiff, Int.reduceBEq, Int.reduceBNe, Int.reduceLT, Int.reduceLE, Int.reduceAdd, Int.reduceSub, Int.reduceMul]
    refine CallX.mk (Ok.vals (patterns_ok knM [0] knMb)) rfl ?_
    simp only [kn5, kn_len, kn_len2, kn_set, List.length_map, List.length_take, Nat.min_def, knM_len, if_true, if_false, bv, nv, List.append_eq, List.getD_cons_zero, List.getD_cons_succ, ← List.map_take, ← List.map_drop, List.all_cons, List.all_nil, Bool.cond_self, scD, valA, VL, VB, BEq.rfl, V1, V2, V3, V4, V5, V6, V7, V8, V9, V10, VE, Nat.reduceBEq, Nat.reduceAdd, Nat.reduceSub, Nat.reduceMul, Nat.reduceLeDiff, Nat.reduceLT, Nat.reduceEqDiff, Int.reduceBEq, Int.reduceBNe, Int.reduceLT, Int.reduceLE, Int.reduceAdd, Int.reduceSub, Int.reduceMul]
    refine CallX.mk (Ok.val (rows_ok [⟨#[112]⟩, ⟨#[112]⟩, ⟨#[112]⟩, ⟨#[112]⟩, ⟨#[112]⟩, ⟨#[112]⟩, ⟨#[112]⟩, ⟨#[112]⟩, ⟨#[112]⟩] (by decide) (by decide))) rfl ?_
    rw [show rowsC [⟨#[112]⟩, ⟨#[112]⟩, ⟨#[112]⟩, ⟨#[112]⟩, ⟨#[112]⟩, ⟨#[112]⟩, ⟨#[112]⟩, ⟨#[112]⟩, ⟨#[112]⟩] = kn9 from rfl]
    simp only [kn_len, kn_len2, kn_set, List.length_map, List.length_take, Nat.min_def, knM_len, if_true, if_false, bv, nv, List.append_eq, List.getD_cons_zero, List.getD_cons_succ, ← List.map_take, ← List.map_drop, List.all_cons, List.all_nil, Bool.cond_self, scD, valA, VL, VB, BEq.rfl, V1, V2, V3, V4, V5, V6, V7, V8, V9, V10, VE, Nat.reduceBEq, Nat.reduceAdd, Nat.reduceSub, Nat.reduceMul, Nat.reduceLeDiff, Nat.reduceLT, Nat.reduceEqDiff, Int.reduceBEq, Int.reduceBNe, Int.reduceLT, Int.reduceLE, Int.reduceAdd, Int.reduceSub, Int.reduceMul]
    refine CallX.mk (fewest_ok kn9 kn9b) rfl ?_
    simp only [kn6, kn_len, kn_len2, kn_set, List.length_map, List.length_take, Nat.min_def, knM_len, if_true, if_false, bv, nv, List.append_eq, List.getD_cons_zero, List.getD_cons_succ, ← List.map_take, ← List.map_drop, List.all_cons, List.all_nil, Bool.cond_self, scD, valA, VL, VB, BEq.rfl, V1, V2, V3, V4, V5, V6, V7, V8, V9, V10, VE, Nat.reduceBEq, Nat.reduceAdd, Nat.reduceSub, Nat.reduceMul, Nat.reduceLeDiff, Nat.reduceLT, Nat.reduceEqDiff, Int.reduceBEq, Int.reduceBNe, Int.reduceLT, Int.reduceLE, Int.reduceAdd, Int.reduceSub, Int.reduceMul]
    refine CallX.mk (fewest_ok [] (by simp)) rfl ?_
    simp only [kn7, kn7a, kn7b, List.map_nil, kn_len, kn_len2, kn_set, List.length_map, List.length_take, Nat.min_def, knM_len, if_true, if_false, bv, nv, List.append_eq, List.getD_cons_zero, List.getD_cons_succ, ← List.map_take, ← List.map_drop, List.all_cons, List.all_nil, Bool.cond_self, scD, valA, VL, VB, BEq.rfl, V1, V2, V3, V4, V5, V6, V7, V8, V9, V10, VE, Nat.reduceBEq, Nat.reduceAdd, Nat.reduceSub, Nat.reduceMul, Nat.reduceLeDiff, Nat.reduceLT, Nat.reduceEqDiff, Int.reduceBEq, Int.reduceBNe, Int.reduceLT, Int.reduceLE, Int.reduceAdd, Int.reduceSub, Int.reduceMul]
    refine ⟨by decide, ?_⟩
    refine CallX.mk (Ok.vals (greedy_ok (List.replicate 257 Corr.zero) (fun c hc => by rw [List.eq_of_mem_replicate hc]; show 0 * 16 ≤ 140737488355328; omega))) rfl ?_
    simp only [kn8, kn_len, kn_len2, kn_set, List.length_map, List.length_take, Nat.min_def, knM_len, if_true, if_false, bv, nv, List.append_eq, List.getD_cons_zero, List.getD_cons_succ, ← List.map_take, ← List.map_drop, List.all_cons, List.all_nil, Bool.cond_self, scD, valA, VL, VB, BEq.rfl, V1, V2, V3, V4, V5, V6, V7, V8, V9, V10, VE, Nat.reduceBEq, Nat.reduceAdd, Nat.reduceSub, Nat.reduceMul, Nat.reduceLeDiff, Nat.reduceLT, Nat.reduceEqDiff, Int.reduceBEq, Int.reduceBNe, Int.reduceLT, Int.reduceLE, Int.reduceAdd, Int.reduceSub, Int.reduceMul]
    refine CallX.mk (Ok.vals (greedy_ok [⟨[], -1⟩] (by simp))) rfl ?_
    simp only [kn9a, kn_len, kn_len2, kn_set, List.length_map, List.length_take, Nat.min_def, knM_len, if_true, if_false, bv, nv, List.append_eq, List.getD_cons_zero, List.getD_cons_succ, ← List.map_take, ← List.map_drop, List.all_cons, List.all_nil, Bool.cond_self, scD, valA, VL, VB, BEq.rfl, V1, V2, V3, V4, V5, V6, V7, V8, V9, V10, VE, Nat.reduceBEq, Nat.reduceAdd, Nat.reduceSub, Nat.reduceMul, Nat.reduceLeDiff, Nat.reduceLT, Nat.reduceEqDiff, Int.reduceBEq, Int.reduceBNe, Int.reduceLT, Int.reduceLE, Int.reduceAdd, Int.reduceSub, Int.reduceMul]
    refine CallX.mk (Ok.vals (greedy_ok [⟨[], 1073741825⟩] (by simp))) rfl ?_
    simp only [kn10, kn_len, kn_len2, kn_set, List.length_map, List.length_take, Nat.min_def, knM_len, if_true, if_false, bv, nv, List.append_eq, List.getD_cons_zero, List.getD_cons_succ, ← List.map_take, ← List.map_drop, List.all_cons, List.all_nil, Bool.cond_self, scD, valA, VL, VB, BEq.rfl, V1, V2, V3, V4, V5, V6, V7, V8, V9, V10, VE, Nat.reduceBEq, Nat.reduceAdd, Nat.reduceSub, Nat.reduceMul, Nat.reduceLeDiff, Nat.reduceLT, Nat.reduceEqDiff, Int.reduceBEq, Int.reduceBNe, Int.reduceLT, Int.reduceLE, Int.reduceAdd, Int.reduceSub, Int.reduceMul]
    refine CallX.mk (Ok.val (rows_ok [⟨#[112, 98]⟩] (by decide) (by decide))) rfl ?_
    simp only [kn_len, kn_len2, kn_set, List.length_map, List.length_take, Nat.min_def, knM_len, if_true, if_false, bv, nv, List.append_eq, List.getD_cons_zero, List.getD_cons_succ, ← List.map_take, ← List.map_drop, List.all_cons, List.all_nil, Bool.cond_self, scD, valA, VL, VB, BEq.rfl, V1, V2, V3, V4, V5, V6, V7, V8, V9, V10, VE, Nat.reduceBEq, Nat.reduceAdd, Nat.reduceSub, Nat.reduceMul, Nat.reduceLeDiff, Nat.reduceLT, Nat.reduceEqDiff, Int.reduceBEq, Int.reduceBNe, Int.reduceLT, Int.reduceLE, Int.reduceAdd, Int.reduceSub, Int.reduceMul]
    refine CallX.mk (Ok.val (row_ok ⟨#[98, 63]⟩ (by decide))) rfl ?_
    simp only [kn_len, kn_len2, kn_set, List.length_map, List.length_take, Nat.min_def, knM_len, if_true, if_false, bv, nv, List.append_eq, List.getD_cons_zero, List.getD_cons_succ, ← List.map_take, ← List.map_drop, List.all_cons, List.all_nil, Bool.cond_self, scD, valA, VL, VB, BEq.rfl, V1, V2, V3, V4, V5, V6, V7, V8, V9, V10, VE, Nat.reduceBEq, Nat.reduceAdd, Nat.reduceSub, Nat.reduceMul, Nat.reduceLeDiff, Nat.reduceLT, Nat.reduceEqDiff, Int.reduceBEq, Int.reduceBNe, Int.reduceLT, Int.reduceLE, Int.reduceAdd, Int.reduceSub, Int.reduceMul]
    refine CallX.mk (Ok.vals (predict_ok (rowsC [⟨#[112, 98]⟩]) (rowC ⟨#[98, 63]⟩) (bounded (by kernel_rfl)) (by decide))) rfl ?_
    simp only [kn11, kn_len, kn_len2, kn_set, List.length_map, List.length_take, Nat.min_def, knM_len, if_true, if_false, bv, nv, List.append_eq, List.getD_cons_zero, List.getD_cons_succ, ← List.map_take, ← List.map_drop, List.all_cons, List.all_nil, Bool.cond_self, scD, valA, VL, VB, BEq.rfl, V1, V2, V3, V4, V5, V6, V7, V8, V9, V10, VE, Nat.reduceBEq, Nat.reduceAdd, Nat.reduceSub, Nat.reduceMul, Nat.reduceLeDiff, Nat.reduceLT, Nat.reduceEqDiff, Int.reduceBEq, Int.reduceBNe, Int.reduceLT, Int.reduceLE, Int.reduceAdd, Int.reduceSub, Int.reduceMul]
    refine CallX.mk (Ok.val (row_ok ⟨#[63]⟩ (by decide))) rfl ?_
    simp only [kn_len, kn_len2, kn_set, List.length_map, List.length_take, Nat.min_def, knM_len, if_true, if_false, bv, nv, List.append_eq, List.getD_cons_zero, List.getD_cons_succ, ← List.map_take, ← List.map_drop, List.all_cons, List.all_nil, Bool.cond_self, scD, valA, VL, VB, BEq.rfl, V1, V2, V3, V4, V5, V6, V7, V8, V9, V10, VE, Nat.reduceBEq, Nat.reduceAdd, Nat.reduceSub, Nat.reduceMul, Nat.reduceLeDiff, Nat.reduceLT, Nat.reduceEqDiff, Int.reduceBEq, Int.reduceBNe, Int.reduceLT, Int.reduceLE, Int.reduceAdd, Int.reduceSub, Int.reduceMul]
    refine CallX.mk (Ok.vals (predict_ok [] (rowC ⟨#[63]⟩) (by simp) (by decide))) rfl ?_
    simp only [kn12, kn_len, kn_len2, kn_set, List.length_map, List.length_take, Nat.min_def, knM_len, if_true, if_false, bv, nv, List.append_eq, List.getD_cons_zero, List.getD_cons_succ, ← List.map_take, ← List.map_drop, List.all_cons, List.all_nil, Bool.cond_self, scD, valA, VL, VB, BEq.rfl, V1, V2, V3, V4, V5, V6, V7, V8, V9, V10, VE, Nat.reduceBEq, Nat.reduceAdd, Nat.reduceSub, Nat.reduceMul, Nat.reduceLeDiff, Nat.reduceLT, Nat.reduceEqDiff, Int.reduceBEq, Int.reduceBNe, Int.reduceLT, Int.reduceLE, Int.reduceAdd, Int.reduceSub, Int.reduceMul]
    refine CallX.mk (Ok.val (rows_ok [⟨#[112]⟩, ⟨#[112, 63]⟩] (by decide) (by decide))) rfl ?_
    simp only [kn_len, kn_len2, kn_set, List.length_map, List.length_take, Nat.min_def, knM_len, if_true, if_false, bv, nv, List.append_eq, List.getD_cons_zero, List.getD_cons_succ, ← List.map_take, ← List.map_drop, List.all_cons, List.all_nil, Bool.cond_self, scD, valA, VL, VB, BEq.rfl, V1, V2, V3, V4, V5, V6, V7, V8, V9, V10, VE, Nat.reduceBEq, Nat.reduceAdd, Nat.reduceSub, Nat.reduceMul, Nat.reduceLeDiff, Nat.reduceLT, Nat.reduceEqDiff, Int.reduceBEq, Int.reduceBNe, Int.reduceLT, Int.reduceLE, Int.reduceAdd, Int.reduceSub, Int.reduceMul]
    refine CallX.mk (conflicts_ok (rowsC [⟨#[112]⟩, ⟨#[112, 63]⟩])) rfl ?_
    simp only [kn13, kn_len, kn_len2, kn_set, List.length_map, List.length_take, Nat.min_def, knM_len, if_true, if_false, bv, nv, List.append_eq, List.getD_cons_zero, List.getD_cons_succ, ← List.map_take, ← List.map_drop, List.all_cons, List.all_nil, Bool.cond_self, scD, valA, VL, VB, BEq.rfl, V1, V2, V3, V4, V5, V6, V7, V8, V9, V10, VE, Nat.reduceBEq, Nat.reduceAdd, Nat.reduceSub, Nat.reduceMul, Nat.reduceLeDiff, Nat.reduceLT, Nat.reduceEqDiff, Int.reduceBEq, Int.reduceBNe, Int.reduceLT, Int.reduceLE, Int.reduceAdd, Int.reduceSub, Int.reduceMul]
    refine CallX.mk (Ok.val (row_ok ⟨#[112]⟩ (by decide))) rfl ?_
    simp only [kn_len, kn_len2, kn_set, List.length_map, List.length_take, Nat.min_def, knM_len, if_true, if_false, bv, nv, List.append_eq, List.getD_cons_zero, List.getD_cons_succ, ← List.map_take, ← List.map_drop, List.all_cons, List.all_nil, Bool.cond_self, scD, valA, VL, VB, BEq.rfl, V1, V2, V3, V4, V5, V6, V7, V8, V9, V10, VE, Nat.reduceBEq, Nat.reduceAdd, Nat.reduceSub, Nat.reduceMul, Nat.reduceLeDiff, Nat.reduceLT, Nat.reduceEqDiff, Int.reduceBEq, Int.reduceBNe, Int.reduceLT, Int.reduceLE, Int.reduceAdd, Int.reduceSub, Int.reduceMul]
    refine CallX.mk (Ok.val (row_ok ⟨#[98]⟩ (by decide))) rfl ?_
    simp only [kn_len, kn_len2, kn_set, List.length_map, List.length_take, Nat.min_def, knM_len, if_true, if_false, bv, nv, List.append_eq, List.getD_cons_zero, List.getD_cons_succ, ← List.map_take, ← List.map_drop, List.all_cons, List.all_nil, Bool.cond_self, scD, valA, VL, VB, BEq.rfl, V1, V2, V3, V4, V5, V6, V7, V8, V9, V10, VE, Nat.reduceBEq, Nat.reduceAdd, Nat.reduceSub, Nat.reduceMul, Nat.reduceLeDiff, Nat.reduceLT, Nat.reduceEqDiff, Int.reduceBEq, Int.reduceBNe, Int.reduceLT, Int.reduceLE, Int.reduceAdd, Int.reduceSub, Int.reduceMul]
    refine CallX.mk (Ok.vals (Join_ok _ _ (by decide))) rfl ?_
    simp only [kn14, kn_len, kn_len2, kn_set, List.length_map, List.length_take, Nat.min_def, knM_len, if_true, if_false, bv, nv, List.append_eq, List.getD_cons_zero, List.getD_cons_succ, ← List.map_take, ← List.map_drop, List.all_cons, List.all_nil, Bool.cond_self, scD, valA, VL, VB, BEq.rfl, V1, V2, V3, V4, V5, V6, V7, V8, V9, V10, VE, Nat.reduceBEq, Nat.reduceAdd, Nat.reduceSub, Nat.reduceMul, Nat.reduceLeDiff, Nat.reduceLT, Nat.reduceEqDiff, Int.reduceBEq, Int.reduceBNe, Int.reduceLT, Int.reduceLE, Int.reduceAdd, Int.reduceSub, Int.reduceMul]
    refine CallX.mk (equal_ok [0, 1, 0, 1] [0, 1, 0, 1]) rfl ?_
    simp only [kn_len, kn_len2, kn_set, List.length_map, List.length_take, Nat.min_def, knM_len, if_true, if_false, bv, nv, List.append_eq, List.getD_cons_zero, List.getD_cons_succ, ← List.map_take, ← List.map_drop, List.all_cons, List.all_nil, Bool.cond_self, scD, valA, VL, VB, BEq.rfl, V1, V2, V3, V4, V5, V6, V7, V8, V9, V10, VE, Nat.reduceBEq, Nat.reduceAdd, Nat.reduceSub, Nat.reduceMul, Nat.reduceLeDiff, Nat.reduceLT, Nat.reduceEqDiff, Int.reduceBEq, Int.reduceBNe, Int.reduceLT, Int.reduceLE, Int.reduceAdd, Int.reduceSub, Int.reduceMul]
    refine CallX.mk (Ok.val (row_ok ⟨#[112, 98]⟩ (by decide))) rfl ?_
    simp only [kn_len, kn_len2, kn_set, List.length_map, List.length_take, Nat.min_def, knM_len, if_true, if_false, bv, nv, List.append_eq, List.getD_cons_zero, List.getD_cons_succ, ← List.map_take, ← List.map_drop, List.all_cons, List.all_nil, Bool.cond_self, scD, valA, VL, VB, BEq.rfl, V1, V2, V3, V4, V5, V6, V7, V8, V9, V10, VE, Nat.reduceBEq, Nat.reduceAdd, Nat.reduceSub, Nat.reduceMul, Nat.reduceLeDiff, Nat.reduceLT, Nat.reduceEqDiff, Int.reduceBEq, Int.reduceBNe, Int.reduceLT, Int.reduceLE, Int.reduceAdd, Int.reduceSub, Int.reduceMul]
    refine CallX.mk (Ok.val (row_ok ⟨#[98, 63]⟩ (by decide))) rfl ?_
    simp only [kn_len, kn_len2, kn_set, List.length_map, List.length_take, Nat.min_def, knM_len, if_true, if_false, bv, nv, List.append_eq, List.getD_cons_zero, List.getD_cons_succ, ← List.map_take, ← List.map_drop, List.all_cons, List.all_nil, Bool.cond_self, scD, valA, VL, VB, BEq.rfl, V1, V2, V3, V4, V5, V6, V7, V8, V9, V10, VE, Nat.reduceBEq, Nat.reduceAdd, Nat.reduceSub, Nat.reduceMul, Nat.reduceLeDiff, Nat.reduceLT, Nat.reduceEqDiff, Int.reduceBEq, Int.reduceBNe, Int.reduceLT, Int.reduceLE, Int.reduceAdd, Int.reduceSub, Int.reduceMul]
    refine CallX.mk (Same_ok [⟨rowC ⟨#[112, 98]⟩, 3⟩, ⟨rowC ⟨#[98, 63]⟩, 1⟩] [⟨rowC ⟨#[112, 98]⟩, 3⟩, ⟨rowC ⟨#[98, 63]⟩, 1⟩]) rfl ?_
    simp only [kn_len, kn_len2, kn_set, List.length_map, List.length_take, Nat.min_def, knM_len, if_true, if_false, bv, nv, List.append_eq, List.getD_cons_zero, List.getD_cons_succ, ← List.map_take, ← List.map_drop, List.all_cons, List.all_nil, Bool.cond_self, scD, valA, VL, VB, BEq.rfl, V1, V2, V3, V4, V5, V6, V7, V8, V9, V10, VE, Nat.reduceBEq, Nat.reduceAdd, Nat.reduceSub, Nat.reduceMul, Nat.reduceLeDiff, Nat.reduceLT, Nat.reduceEqDiff, Int.reduceBEq, Int.reduceBNe, Int.reduceLT, Int.reduceLE, Int.reduceAdd, Int.reduceSub, Int.reduceMul]
    refine CallX.mk works_ok rfl ?_
    simp only [kn_len, kn_len2, kn_set, List.length_map, List.length_take, Nat.min_def, knM_len, if_true, if_false, bv, nv, List.append_eq, List.getD_cons_zero, List.getD_cons_succ, ← List.map_take, ← List.map_drop, List.all_cons, List.all_nil, Bool.cond_self, scD, valA, VL, VB, BEq.rfl, V1, V2, V3, V4, V5, V6, V7, V8, V9, V10, VE, Nat.reduceBEq, Nat.reduceAdd, Nat.reduceSub, Nat.reduceMul, Nat.reduceLeDiff, Nat.reduceLT, Nat.reduceEqDiff, Int.reduceBEq, Int.reduceBNe, Int.reduceLT, Int.reduceLE, Int.reduceAdd, Int.reduceSub, Int.reduceMul]
    done

end Go.Cp
namespace Go.Proofs.Ytiafkdnbfpfmiaa
open Go Go.Proofs Go.RowKit Go.ChangeShapes Go.WideShapes Go.ChangeAt Go.Vx Go.Cp

theorem compatKnown_lifted (os : Os) (started : os.Started) (H : Type) (enc : TypeId × Value → H) :
    ReturnsInHanded {} Try.checked os 11 .any (Rows.compatKnownSpec.pre6 enc Try.prog Try.f11 Rows.compatKnownRow.domain false) (Rows.compatKnownSpec.post enc Try.prog Try.f11 false true false false) := by
  refine law_lifted (m := 8) (tb := 4) os started H enc own laid (by kernel_rfl) Try.func11 rfl Try.underlying4 rfl ?_ (by kernel_rfl) (by kernel_rfl)
    (ChangeSpec.witness6 (enc := enc) (C := Try.checked) false ⟨#[], #[], []⟩ 8 (by kernel_rfl) (by kernel_rfl) (by kernel_rfl) (by kernel_rfl)) ?_
  · rw [Try.params11]
    intro ds hd
    match ds, hd with
    | [], _ => exact ⟨rfl, rfl, rfl⟩
  · rw [Try.params11]
    intro dss h
    match dss, h with
    | [], _ =>
      simp only [argsAV, argAV]
      exact known_law

theorem compatKnown_holds : Rows.CompatKnownSaid :=
  OpenClaim.holds_of_wide 11 Try.f11 rfl rfl rfl rfl rfl rfl rfl ⟨rfl, rfl, rfl, rfl, rfl⟩ rfl rfl rfl rfl rfl (by kernel_rfl) Try.func11 (by kernel_rfl)
    (of_decide_eq_true (by kernel_rfl)) (by unfold Func.isWrapper; first | (rw [if_pos (by decide +kernel)]; kernel_rfl) | (rw [if_neg (by decide +kernel)]; exact ⟨rfl, rfl⟩))
    (fun os started H enc _ => compatKnown_lifted os started H enc)
#print axioms compatKnown_holds

end Go.Proofs.Ytiafkdnbfpfmiaa
