/-
  SyllSplits returns true for every input: the syllables of a word, and which of them are heavy, are those of the document. Conditions: none.
-/
import Derived.Test.YtmiieofmhncfbaaMJ
set_option linter.unusedVariables false
set_option linter.unusedSimpArgs false
set_option maxHeartbeats 8000000
set_option maxRecDepth 100000
namespace Go.Cp
open Go Go.Proofs Go.Vx

theorem splits_law (sc : List Snd) (p : Int) (w : List Snd) (hsc : AllIn sc) (hw : AllIn w) : Ok Try.prog E 3 [.ag (ruleD sc p), .c (word w)] (bv true) := by
  refine ok_of_vc (L := []) (ts := [4]) envOK mixed Try.func3 rfl (by kernel_rfl) rfl (by kernel_rfl) rfl fun hl => ?_
  simp only [Try.f3, word, nums, nats, zv, nv, bv, sv, beq_self_eq_true, VL, VB, BEq.rfl, V1, V2, V3, V4, V5, V6, V7, V8, V9, V10, V11, V12, V13, VE, Nat.reduceBEq, Nat.reduceAdd, Nat.reduceSub, Nat.reduceMul, Nat.reduceLeDiff, Nat.reduceLT, Nat.reduceEqDiff, Int.reduceBEq, Int.reduceBNe, Int.reduceLT, Int.reduceLE, Int.reduceAdd, Int.reduceSub, Int.reduceMul, kAgg, scD, List.all_cons, List.all_nil]
  refine CallX.mk (Split_ok sc p w hsc hw) rfl ?_
  simp only [word, nums, nats, zv, nv, bv, sv, beq_self_eq_true, VL, VB, BEq.rfl, V1, V2, V3, V4, V5, V6, V7, V8, V9, V10, V11, V12, V13, VE, Nat.reduceBEq, Nat.reduceAdd, Nat.reduceSub, Nat.reduceMul, Nat.reduceLeDiff, Nat.reduceLT, Nat.reduceEqDiff, Int.reduceBEq, Int.reduceBNe, Int.reduceLT, Int.reduceLE, Int.reduceAdd, Int.reduceSub, Int.reduceMul, kAgg, scD, List.all_cons, List.all_nil]
  refine CallX.mk (other_ok sc p) rfl ?_
  simp only [word, nums, nats, zv, nv, bv, sv, beq_self_eq_true, VL, VB, BEq.rfl, V1, V2, V3, V4, V5, V6, V7, V8, V9, V10, V11, V12, V13, VE, Nat.reduceBEq, Nat.reduceAdd, Nat.reduceSub, Nat.reduceMul, Nat.reduceLeDiff, Nat.reduceLT, Nat.reduceEqDiff, Int.reduceBEq, Int.reduceBNe, Int.reduceLT, Int.reduceLE, Int.reduceAdd, Int.reduceSub, Int.reduceMul, kAgg, scD, List.all_cons, List.all_nil]
  refine CallX.mk (rSplit_ok sc p w hsc hw) rfl ?_
  simp only [word, nums, nats, zv, nv, bv, sv, beq_self_eq_true, VL, VB, BEq.rfl, V1, V2, V3, V4, V5, V6, V7, V8, V9, V10, V11, V12, V13, VE, Nat.reduceBEq, Nat.reduceAdd, Nat.reduceSub, Nat.reduceMul, Nat.reduceLeDiff, Nat.reduceLT, Nat.reduceEqDiff, Int.reduceBEq, Int.reduceBNe, Int.reduceLT, Int.reduceLE, Int.reduceAdd, Int.reduceSub, Int.reduceMul, kAgg, scD, List.all_cons, List.all_nil]
  refine CallX.mk (Heavy_ok sc p w hsc hw) rfl ?_
  simp only [word, nums, nats, zv, nv, bv, sv, beq_self_eq_true, VL, VB, BEq.rfl, V1, V2, V3, V4, V5, V6, V7, V8, V9, V10, V11, V12, V13, VE, Nat.reduceBEq, Nat.reduceAdd, Nat.reduceSub, Nat.reduceMul, Nat.reduceLeDiff, Nat.reduceLT, Nat.reduceEqDiff, Int.reduceBEq, Int.reduceBNe, Int.reduceLT, Int.reduceLE, Int.reduceAdd, Int.reduceSub, Int.reduceMul, kAgg, scD, List.all_cons, List.all_nil]
  refine CallX.mk (other_ok sc p) rfl ?_
  simp only [word, nums, nats, zv, nv, bv, sv, beq_self_eq_true, VL, VB, BEq.rfl, V1, V2, V3, V4, V5, V6, V7, V8, V9, V10, V11, V12, V13, VE, Nat.reduceBEq, Nat.reduceAdd, Nat.reduceSub, Nat.reduceMul, Nat.reduceLeDiff, Nat.reduceLT, Nat.reduceEqDiff, Int.reduceBEq, Int.reduceBNe, Int.reduceLT, Int.reduceLE, Int.reduceAdd, Int.reduceSub, Int.reduceMul, kAgg, scD, List.all_cons, List.all_nil]
  refine CallX.mk (rHeavy_ok sc p w hsc hw) rfl ?_
  have hs := splitS_len sc p w
  have hh : (heavyS sc p w).length ≤ 32 := by rw [heavyS, heavyOf, List.length_map]; exact hs
  revert hs hh
  generalize splitS sc p w = ss
  generalize heavyS sc p w = hv
  intro hs hh
  simp only [syls, bols, bne_self_eq_false, List.length_map, word, nums, nats, zv, nv, bv, sv, beq_self_eq_true, VL, VB, BEq.rfl, V1, V2, V3, V4, V5, V6, V7, V8, V9, V10, V11, V12, V13, VE, Nat.reduceBEq, Nat.reduceAdd, Nat.reduceSub, Nat.reduceMul, Nat.reduceLeDiff, Nat.reduceLT, Nat.reduceEqDiff, Int.reduceBEq, Int.reduceBNe, Int.reduceLT, Int.reduceLE, Int.reduceAdd, Int.reduceSub, Int.reduceMul, kAgg, scD, List.all_cons, List.all_nil]
  refine LoopVC.mk (Y := Nat) (fun k => k ≤ ss.length) (fun k => ⟨[(5, .c (syls ss)), (7, .c (syls ss)), (9, .c (bols hv)), (11, .c (bols hv)), (13, nv k)], []⟩) (fun k => ss.length - k) ⟨0, Enter.mk [] [] [] ?_, by omega⟩ ?_
  · simp only [syls, bols, bne_self_eq_false, List.length_map, word, nums, nats, zv, nv, bv, sv, beq_self_eq_true, VL, VB, BEq.rfl, V1, V2, V3, V4, V5, V6, V7, V8, V9, V10, V11, V12, V13, VE, Nat.reduceBEq, Nat.reduceAdd, Nat.reduceSub, Nat.reduceMul, Nat.reduceLeDiff, Nat.reduceLT, Nat.reduceEqDiff, Int.reduceBEq, Int.reduceBNe, Int.reduceLT, Int.reduceLE, Int.reduceAdd, Int.reduceSub, Int.reduceMul, kAgg, scD, List.all_cons, List.all_nil]
    rfl
  intro k hk
  simp only [lt_nat, syls, bols, bne_self_eq_false, List.length_map, word, nums, nats, zv, nv, bv, sv, beq_self_eq_true, VL, VB, BEq.rfl, V1, V2, V3, V4, V5, V6, V7, V8, V9, V10, V11, V12, V13, VE, Nat.reduceBEq, Nat.reduceAdd, Nat.reduceSub, Nat.reduceMul, Nat.reduceLeDiff, Nat.reduceLT, Nat.reduceEqDiff, Int.reduceBEq, Int.reduceBNe, Int.reduceLT, Int.reduceLE, Int.reduceAdd, Int.reduceSub, Int.reduceMul, kAgg, scD, List.all_cons, List.all_nil]
  refine guardB.mk (fun h => ?_) (fun h => ?_)
  · have hk' : k < ss.length := by simpa using h
    have e0 : (0 : Int) ≤ (k : Int) := Int.natCast_nonneg k
    simp only [e0, hk', getD_syl ss k hk', Syl.enc, wrap_nat (k := k) (by omega), syls, bols, bne_self_eq_false, List.length_map, word, nums, nats, zv, nv, bv, sv, beq_self_eq_true, VL, VB, BEq.rfl, V1, V2, V3, V4, V5, V6, V7, V8, V9, V10, V11, V12, V13, VE, Nat.reduceBEq, Nat.reduceAdd, Nat.reduceSub, Nat.reduceMul, Nat.reduceLeDiff, Nat.reduceLT, Nat.reduceEqDiff, Int.reduceBEq, Int.reduceBNe, Int.reduceLT, Int.reduceLE, Int.reduceAdd, Int.reduceSub, Int.reduceMul, kAgg, scD, List.all_cons, List.all_nil]
    refine ⟨k + 1, Enter.mk [] [] [] ?_, by omega, by show _ - (k + 1) < _ - k; omega⟩
    simp only [syls, bols, bne_self_eq_false, List.length_map, word, nums, nats, zv, nv, bv, sv, beq_self_eq_true, VL, VB, BEq.rfl, V1, V2, V3, V4, V5, V6, V7, V8, V9, V10, V11, V12, V13, VE, Nat.reduceBEq, Nat.reduceAdd, Nat.reduceSub, Nat.reduceMul, Nat.reduceLeDiff, Nat.reduceLT, Nat.reduceEqDiff, Int.reduceBEq, Int.reduceBNe, Int.reduceLT, Int.reduceLE, Int.reduceAdd, Int.reduceSub, Int.reduceMul, kAgg, scD, List.all_cons, List.all_nil]
  · simp only [h, syls, bols, bne_self_eq_false, List.length_map, word, nums, nats, zv, nv, bv, sv, beq_self_eq_true, VL, VB, BEq.rfl, V1, V2, V3, V4, V5, V6, V7, V8, V9, V10, V11, V12, V13, VE, Nat.reduceBEq, Nat.reduceAdd, Nat.reduceSub, Nat.reduceMul, Nat.reduceLeDiff, Nat.reduceLT, Nat.reduceEqDiff, Int.reduceBEq, Int.reduceBNe, Int.reduceLT, Int.reduceLE, Int.reduceAdd, Int.reduceSub, Int.reduceMul, kAgg, scD, List.all_cons, List.all_nil]
    refine LoopVC.mk (Y := Nat) (fun k => k ≤ hv.length) (fun k => ⟨[(9, .c (bols hv)), (11, .c (bols hv)), (14, nv k)], []⟩) (fun k => hv.length - k) ⟨0, Enter.mk [] [] [] ?_, by omega⟩ ?_
    · simp only [syls, bols, bne_self_eq_false, List.length_map, word, nums, nats, zv, nv, bv, sv, beq_self_eq_true, VL, VB, BEq.rfl, V1, V2, V3, V4, V5, V6, V7, V8, V9, V10, V11, V12, V13, VE, Nat.reduceBEq, Nat.reduceAdd, Nat.reduceSub, Nat.reduceMul, Nat.reduceLeDiff, Nat.reduceLT, Nat.reduceEqDiff, Int.reduceBEq, Int.reduceBNe, Int.reduceLT, Int.reduceLE, Int.reduceAdd, Int.reduceSub, Int.reduceMul, kAgg, scD, List.all_cons, List.all_nil]
      rfl
    intro k hk
    simp only [lt_nat, syls, bols, bne_self_eq_false, List.length_map, word, nums, nats, zv, nv, bv, sv, beq_self_eq_true, VL, VB, BEq.rfl, V1, V2, V3, V4, V5, V6, V7, V8, V9, V10, V11, V12, V13, VE, Nat.reduceBEq, Nat.reduceAdd, Nat.reduceSub, Nat.reduceMul, Nat.reduceLeDiff, Nat.reduceLT, Nat.reduceEqDiff, Int.reduceBEq, Int.reduceBNe, Int.reduceLT, Int.reduceLE, Int.reduceAdd, Int.reduceSub, Int.reduceMul, kAgg, scD, List.all_cons, List.all_nil]
    refine guardB.mk (fun h => ?_) (fun h => ?_)
    · have hk' : k < hv.length := by simpa using h
      have e0 : (0 : Int) ≤ (k : Int) := Int.natCast_nonneg k
      simp only [e0, hk', getD_bol hv k hk', bol_def, wrap_nat (k := k) (by omega), syls, bols, bne_self_eq_false, List.length_map, word, nums, nats, zv, nv, bv, sv, beq_self_eq_true, VL, VB, BEq.rfl, V1, V2, V3, V4, V5, V6, V7, V8, V9, V10, V11, V12, V13, VE, Nat.reduceBEq, Nat.reduceAdd, Nat.reduceSub, Nat.reduceMul, Nat.reduceLeDiff, Nat.reduceLT, Nat.reduceEqDiff, Int.reduceBEq, Int.reduceBNe, Int.reduceLT, Int.reduceLE, Int.reduceAdd, Int.reduceSub, Int.reduceMul, kAgg, scD, List.all_cons, List.all_nil]
      refine ⟨k + 1, Enter.mk [] [] [] ?_, by omega, by show _ - (k + 1) < _ - k; omega⟩
      simp only [syls, bols, bne_self_eq_false, List.length_map, word, nums, nats, zv, nv, bv, sv, beq_self_eq_true, VL, VB, BEq.rfl, V1, V2, V3, V4, V5, V6, V7, V8, V9, V10, V11, V12, V13, VE, Nat.reduceBEq, Nat.reduceAdd, Nat.reduceSub, Nat.reduceMul, Nat.reduceLeDiff, Nat.reduceLT, Nat.reduceEqDiff, Int.reduceBEq, Int.reduceBNe, Int.reduceLT, Int.reduceLE, Int.reduceAdd, Int.reduceSub, Int.reduceMul, kAgg, scD, List.all_cons, List.all_nil]
    · simp only [h, syls, bols, bne_self_eq_false, List.length_map, word, nums, nats, zv, nv, bv, sv, beq_self_eq_true, VL, VB, BEq.rfl, V1, V2, V3, V4, V5, V6, V7, V8, V9, V10, V11, V12, V13, VE, Nat.reduceBEq, Nat.reduceAdd, Nat.reduceSub, Nat.reduceMul, Nat.reduceLeDiff, Nat.reduceLT, Nat.reduceEqDiff, Int.reduceBEq, Int.reduceBNe, Int.reduceLT, Int.reduceLE, Int.reduceAdd, Int.reduceSub, Int.reduceMul, kAgg, scD, List.all_cons, List.all_nil]
      refine CallX.mk works_ok rfl ?_
      simp only [syls, bols, bne_self_eq_false, List.length_map, word, nums, nats, zv, nv, bv, sv, beq_self_eq_true, VL, VB, BEq.rfl, V1, V2, V3, V4, V5, V6, V7, V8, V9, V10, V11, V12, V13, VE, Nat.reduceBEq, Nat.reduceAdd, Nat.reduceSub, Nat.reduceMul, Nat.reduceLeDiff, Nat.reduceLT, Nat.reduceEqDiff, Int.reduceBEq, Int.reduceBNe, Int.reduceLT, Int.reduceLE, Int.reduceAdd, Int.reduceSub, Int.reduceMul, kAgg, scD, List.all_cons, List.all_nil]
end Go.Cp
namespace Go.Proofs.Ytmiieofmhncfbaa
open Go Go.Proofs Go.RowKit Go.ChangeShapes Go.WideShapes Go.ChangeAt Go.Vx Go.Cp

theorem syllSplits_lifted (os : Os) (started : os.Started) (H : Type) (enc : TypeId × Value → H) :
    ReturnsInHanded {} Try.checked os 3 .any (Rows.syllSplitsSpec.pre6 enc Try.prog Try.f3 Rows.syllSplitsRow.domain false) (Rows.syllSplitsSpec.post enc Try.prog Try.f3 false true false false) := by
  refine law_lifted (m := 8) (tb := 4) os started H enc own laid (by kernel_rfl) Try.func3 rfl Try.underlying4 rfl ?_ (by kernel_rfl) (by kernel_rfl)
    (ChangeSpec.witness6 (enc := enc) (C := Try.checked) false ⟨#[], #[.agg #[.slice none 0 0, .int .i64 0], .slice none 0 0], []⟩ 8 (by kernel_rfl) (by kernel_rfl) (by kernel_rfl) (by kernel_rfl)) ?_
  · rw [Try.params3]
    intro ds hd
    match ds, hd with
    | [d1, d2], _ => exact ⟨rfl, rfl, rfl⟩
  · rw [Try.params3]
    intro dss h
    obtain ⟨x1, x2, rfl, h1, h2⟩ := typedL2 h
    obtain ⟨sc, p, rfl, hsc⟩ := typed_rule (m := 4) h1
    obtain ⟨w, rfl, hw⟩ := typed_word (m := 5) h2
    simp only [argsAV, argAV, Try.underlying22, Try.underlying24]
    exact splits_law sc p w hsc hw

theorem syllSplits_holds : Rows.SyllSplitsSaid :=
  OpenClaim.holds_of_wide 3 Try.f3 rfl rfl rfl rfl rfl rfl rfl ⟨rfl, rfl, rfl, rfl, rfl⟩ rfl rfl rfl rfl rfl (by kernel_rfl) Try.func3 (by kernel_rfl)
    (of_decide_eq_true (by kernel_rfl)) (by unfold Func.isWrapper; first | (rw [if_pos (by decide +kernel)]; kernel_rfl) | (rw [if_neg (by decide +kernel)]; exact ⟨rfl, rfl⟩))
    (fun os started H enc _ => syllSplits_lifted os started H enc)
#print axioms syllSplits_holds

end Go.Proofs.Ytmiieofmhncfbaa
