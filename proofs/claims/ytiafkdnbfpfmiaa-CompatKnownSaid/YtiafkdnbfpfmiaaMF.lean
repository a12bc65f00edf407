/-
  Compat: the laws' comparisons of numbers and of correspondences; how many classes. Conditions: none.
  Compat: labels. Conditions: none.
  Compat: a copy of a list. Conditions: none.
  Compat: light lists; cells that know. Conditions: none.
  Compat: whether an assignment is allowed. Conditions: none.
  Compat: Greedy. Conditions: none.
  Compat: the rows of the examples. Conditions: none.
  Compat: correspondences out of numbers. Conditions: none.
-/
import Derived.Test.YtiafkdnbfpfmiaaME
import Derived.Test.YtiafkdnbfpfmiaaMC

section
set_option linter.unusedVariables false
set_option linter.unusedSimpArgs false
set_option maxHeartbeats 4000000
set_option maxRecDepth 10000
namespace Go.Cp
open Go Go.Proofs Go.Vx

theorem len_ne' {α : Type} (xs ys : List α) : ((xs.length : Int) != (ys.length : Int)) = !decide (xs.length = ys.length) := by
  rw [bne, int_beq]; congr 2; exact propext ⟨fun h => by omega, fun h => by omega⟩
theorem num_beq (x y : Int) : (x != y) = !decide (x = y) := rfl

theorem equal_ok (xs ys : List Int) : Ok Try.prog E 26 [.c (nums xs), .c (nums ys)] (.c (.sc (.bool (decide (xs = ys))))) := by
  refine ok_of_vc (L := []) (ts := [4]) envOK mixed Try.func26 rfl (by kernel_rfl) rfl (by kernel_rfl) rfl fun hl => ?_
  have hx := len_of (hl _ (List.mem_cons_self ..))
  rw [List.length_map] at hx
  simp only [Try.f26, VL, VB, BEq.rfl, V1, V2, V3, V4, V5, V6, V7, V8, V9, V10, VE, Nat.reduceBEq, Nat.reduceAdd, Nat.reduceSub, Nat.reduceMul, Nat.reduceLeDiff, Nat.reduceLT, Nat.reduceEqDiff, Int.reduceBEq, Int.reduceBNe, Int.reduceLT, Int.reduceLE, Int.reduceAdd, Int.reduceSub, Int.reduceMul]
  refine guardB.mk (fun h => ?_) (fun h => ?_)
  · simp only [VL, VB, BEq.rfl, V1, V2, V3, V4, V5, V6, V7, V8, V9, V10, VE, Nat.reduceBEq, Nat.reduceAdd, Nat.reduceSub, Nat.reduceMul, Nat.reduceLeDiff, Nat.reduceLT, Nat.reduceEqDiff, Int.reduceBEq, Int.reduceBNe, Int.reduceLT, Int.reduceLE, Int.reduceAdd, Int.reduceSub, Int.reduceMul]
    have hne : xs ≠ ys := by rintro rfl; simp at h
    rw [decide_eq_false hne]
  · simp only [VL, VB, BEq.rfl, V1, V2, V3, V4, V5, V6, V7, V8, V9, V10, VE, Nat.reduceBEq, Nat.reduceAdd, Nat.reduceSub, Nat.reduceMul, Nat.reduceLeDiff, Nat.reduceLT, Nat.reduceEqDiff, Int.reduceBEq, Int.reduceBNe, Int.reduceLT, Int.reduceLE, Int.reduceAdd, Int.reduceSub, Int.reduceMul]
    have hlen : xs.length = ys.length := by simpa [Int.natCast_inj] using h
    refine LoopVC.mk (Y := Nat) (fun k => k ≤ xs.length ∧ ∀ i < k, xs[i]? = ys[i]?) (fun k => ⟨[(0, .c (.sl (xs.map num))), (1, .c (.sl (ys.map num))), (5, .c (.sc (.int .i64 k)))], []⟩) (fun k => xs.length - k) ⟨0, Enter.id ?_, by omega, by omega⟩ ?_
    · simp only [VL, VB, BEq.rfl, V1, V2, V3, V4, V5, V6, V7, V8, V9, V10, VE, Nat.reduceBEq, Nat.reduceAdd, Nat.reduceSub, Nat.reduceMul, Nat.reduceLeDiff, Nat.reduceLT, Nat.reduceEqDiff, Int.reduceBEq, Int.reduceBNe, Int.reduceLT, Int.reduceLE, Int.reduceAdd, Int.reduceSub, Int.reduceMul]
      rfl
    · rintro k ⟨hk, hpre⟩
      simp only [VL, VB, BEq.rfl, V1, V2, V3, V4, V5, V6, V7, V8, V9, V10, VE, Nat.reduceBEq, Nat.reduceAdd, Nat.reduceSub, Nat.reduceMul, Nat.reduceLeDiff, Nat.reduceLT, Nat.reduceEqDiff, Int.reduceBEq, Int.reduceBNe, Int.reduceLT, Int.reduceLE, Int.reduceAdd, Int.reduceSub, Int.reduceMul]
      refine guardB.mk (fun h => ?_) (fun h => ?_)
      · have hk' : k < xs.length := by simpa using h
        simp only [getD_num, hk', show k < ys.length by omega, num_def, num_beq, VL, VB, BEq.rfl, V1, V2, V3, V4, V5, V6, V7, V8, V9, V10, VE, Nat.reduceBEq, Nat.reduceAdd, Nat.reduceSub, Nat.reduceMul, Nat.reduceLeDiff, Nat.reduceLT, Nat.reduceEqDiff, Int.reduceBEq, Int.reduceBNe, Int.reduceLT, Int.reduceLE, Int.reduceAdd, Int.reduceSub, Int.reduceMul]
        refine ⟨Int.natCast_nonneg k, Int.natCast_nonneg k, guardB.mk (fun h => ?_) (fun h => ?_)⟩
        · simp only [VL, VB, BEq.rfl, V1, V2, V3, V4, V5, V6, V7, V8, V9, V10, VE, Nat.reduceBEq, Nat.reduceAdd, Nat.reduceSub, Nat.reduceMul, Nat.reduceLeDiff, Nat.reduceLT, Nat.reduceEqDiff, Int.reduceBEq, Int.reduceBNe, Int.reduceLT, Int.reduceLE, Int.reduceAdd, Int.reduceSub, Int.reduceMul]
          have hne : xs ≠ ys := by rintro rfl; simp at h
          rw [decide_eq_false hne]
        · simp only [wrap_of (show (0 : Int) ≤ k + 1 by omega) (by omega), VL, VB, BEq.rfl, V1, V2, V3, V4, V5, V6, V7, V8, V9, V10, VE, Nat.reduceBEq, Nat.reduceAdd, Nat.reduceSub, Nat.reduceMul, Nat.reduceLeDiff, Nat.reduceLT, Nat.reduceEqDiff, Int.reduceBEq, Int.reduceBNe, Int.reduceLT, Int.reduceLE, Int.reduceAdd, Int.reduceSub, Int.reduceMul]
          refine ⟨k + 1, Enter.id ?_, ⟨by omega, fun i hi => ?_⟩, by show xs.length - (k + 1) < xs.length - k; omega⟩
          · simp only [VL, VB, BEq.rfl, V1, V2, V3, V4, V5, V6, V7, V8, V9, V10, VE, Nat.reduceBEq, Nat.reduceAdd, Nat.reduceSub, Nat.reduceMul, Nat.reduceLeDiff, Nat.reduceLT, Nat.reduceEqDiff, Int.reduceBEq, Int.reduceBNe, Int.reduceLT, Int.reduceLE, Int.reduceAdd, Int.reduceSub, Int.reduceMul]
            rfl
          · by_cases hik : i = k
            · subst hik
              have : xs.getD i 0 = ys.getD i 0 := by simpa using h
              simp only [List.getD, List.getElem?_eq_getElem hk', List.getElem?_eq_getElem (show i < ys.length by omega), Option.getD_some] at this
              rw [List.getElem?_eq_getElem hk', List.getElem?_eq_getElem (show i < ys.length by omega), this]
            · exact hpre i (by omega)
      · simp only [VL, VB, BEq.rfl, V1, V2, V3, V4, V5, V6, V7, V8, V9, V10, VE, Nat.reduceBEq, Nat.reduceAdd, Nat.reduceSub, Nat.reduceMul, Nat.reduceLeDiff, Nat.reduceLT, Nat.reduceEqDiff, Int.reduceBEq, Int.reduceBNe, Int.reduceLT, Int.reduceLE, Int.reduceAdd, Int.reduceSub, Int.reduceMul]
        have hk' : k = xs.length := by
          have : ¬ k < xs.length := by simpa using h
          omega
        have he : xs = ys := List.ext_getElem? fun i => by
          by_cases hi : i < k
          · exact hpre i hi
          · rw [List.getElem?_eq_none (by omega), List.getElem?_eq_none (by omega)]
        rw [decide_eq_true he]


def manyC (l : List Int) (k : Nat) : Nat := ((List.range k).filter fun i => decide (l.getD i 0 = (i : Int))).length
theorem manyC_succ (l : List Int) (k : Nat) : manyC l (k + 1) = manyC l k + if l.getD k 0 = (k : Int) then 1 else 0 := by
  simp only [manyC, List.range_succ, List.filter_append, List.length_append]
  congr 1
  by_cases h : l.getD k 0 = (k : Int)
  · rw [if_pos h]; simp only [List.filter_cons, h, decide_true, if_true, List.filter_nil, List.length_cons, List.length_nil]
  · rw [if_neg h]; simp only [List.filter_cons, h, decide_false, Bool.false_eq_true, if_false, List.filter_nil, List.length_nil]
theorem manyC_le (l : List Int) (k : Nat) : manyC l k ≤ k := Nat.le_trans (List.length_filter_le _ _) (by rw [List.length_range]; exact Nat.le_refl _)

theorem many_ok (xs : List Int) : Ok Try.prog E 35 [.c (nums xs)] (nv (manyC xs xs.length)) := by
  refine ok_of_vc (L := []) (ts := [2]) envOK mixed Try.func35 rfl (by kernel_rfl) rfl (by kernel_rfl) rfl fun hl => ?_
  have hx := len_of (hl _ (List.mem_cons_self ..))
  rw [List.length_map] at hx
  simp only [Try.f35, nv, VL, VB, BEq.rfl, V1, V2, V3, V4, V5, V6, V7, V8, V9, V10, VE, Nat.reduceBEq, Nat.reduceAdd, Nat.reduceSub, Nat.reduceMul, Nat.reduceLeDiff, Nat.reduceLT, Nat.reduceEqDiff, Int.reduceBEq, Int.reduceBNe, Int.reduceLT, Int.reduceLE, Int.reduceAdd, Int.reduceSub, Int.reduceMul]
  refine LoopVC.mk (Y := Nat) (fun k => k ≤ xs.length) (fun k => ⟨[(0, .c (nums xs)), (3, .c (.sc (.int .i64 (manyC xs k)))), (4, .c (.sc (.int .i64 k)))], []⟩) (fun k => xs.length - k) ⟨0, Enter.id ?_, by omega⟩ ?_
  · simp only [manyC, List.range_zero, List.filter_nil, VL, VB, BEq.rfl, V1, V2, V3, V4, V5, V6, V7, V8, V9, V10, VE, Nat.reduceBEq, Nat.reduceAdd, Nat.reduceSub, Nat.reduceMul, Nat.reduceLeDiff, Nat.reduceLT, Nat.reduceEqDiff, Int.reduceBEq, Int.reduceBNe, Int.reduceLT, Int.reduceLE, Int.reduceAdd, Int.reduceSub, Int.reduceMul]
    exact ⟨rfl, rfl⟩
  intro k hk
  simp only [VL, VB, BEq.rfl, V1, V2, V3, V4, V5, V6, V7, V8, V9, V10, VE, Nat.reduceBEq, Nat.reduceAdd, Nat.reduceSub, Nat.reduceMul, Nat.reduceLeDiff, Nat.reduceLT, Nat.reduceEqDiff, Int.reduceBEq, Int.reduceBNe, Int.reduceLT, Int.reduceLE, Int.reduceAdd, Int.reduceSub, Int.reduceMul]
  refine guardB.mk (fun h => ?_) (fun h => ?_)
  · have hk' : k < xs.length := by simpa using h
    have hle := manyC_le xs k
    have hs := manyC_succ xs k
    obtain ⟨c, hc⟩ : ∃ c, xs.getD k 0 = c := ⟨_, rfl⟩
    rw [hc] at hs
    have hwrap : IntKind.i64.wrap ((k : Int) + 1) = ((k + 1 : Nat) : Int) := by rw [wrap_of (by omega) (by omega)]; rfl
    have hwrap2 : IntKind.i64.wrap ((manyC xs k : Int) + 1) = ((manyC xs k + 1 : Nat) : Int) := by rw [wrap_of (by omega) (by omega)]; rfl
    simp only [getD_num, hk', hc, hwrap, hwrap2, num_def, VL, VB, BEq.rfl, V1, V2, V3, V4, V5, V6, V7, V8, V9, V10, VE, Nat.reduceBEq, Nat.reduceAdd, Nat.reduceSub, Nat.reduceMul, Nat.reduceLeDiff, Nat.reduceLT, Nat.reduceEqDiff, Int.reduceBEq, Int.reduceBNe, Int.reduceLT, Int.reduceLE, Int.reduceAdd, Int.reduceSub, Int.reduceMul]
    refine ⟨Int.natCast_nonneg k, ?_⟩
    refine guardB.mk (fun h2 => ?_) (fun h2 => ?_) <;> simp only [h2, getD_num, hk', hc, hwrap, hwrap2, num_def, VL, VB, BEq.rfl, V1, V2, V3, V4, V5, V6, V7, V8, V9, V10, VE, Nat.reduceBEq, Nat.reduceAdd, Nat.reduceSub, Nat.reduceMul, Nat.reduceLeDiff, Nat.reduceLT, Nat.reduceEqDiff, Int.reduceBEq, Int.reduceBNe, Int.reduceLT, Int.reduceLE, Int.reduceAdd, Int.reduceSub, Int.reduceMul]
    · rw [if_pos (by simpa using h2)] at hs
      refine ⟨k + 1, Enter.id ?_, by omega, by show xs.length - (k + 1) < xs.length - k; omega⟩
      simp only [hs, getD_num, hk', hc, hwrap, hwrap2, num_def, VL, VB, BEq.rfl, V1, V2, V3, V4, V5, V6, V7, V8, V9, V10, VE, Nat.reduceBEq, Nat.reduceAdd, Nat.reduceSub, Nat.reduceMul, Nat.reduceLeDiff, Nat.reduceLT, Nat.reduceEqDiff, Int.reduceBEq, Int.reduceBNe, Int.reduceLT, Int.reduceLE, Int.reduceAdd, Int.reduceSub, Int.reduceMul]
    · rw [if_neg (by simpa using h2), Nat.add_zero] at hs
      refine ⟨k + 1, Enter.id ?_, by omega, by show xs.length - (k + 1) < xs.length - k; omega⟩
      simp only [hs, getD_num, hk', hc, hwrap, hwrap2, num_def, VL, VB, BEq.rfl, V1, V2, V3, V4, V5, V6, V7, V8, V9, V10, VE, Nat.reduceBEq, Nat.reduceAdd, Nat.reduceSub, Nat.reduceMul, Nat.reduceLeDiff, Nat.reduceLT, Nat.reduceEqDiff, Int.reduceBEq, Int.reduceBNe, Int.reduceLT, Int.reduceLE, Int.reduceAdd, Int.reduceSub, Int.reduceMul]
  · simp only [VL, VB, BEq.rfl, V1, V2, V3, V4, V5, V6, V7, V8, V9, V10, VE, Nat.reduceBEq, Nat.reduceAdd, Nat.reduceSub, Nat.reduceMul, Nat.reduceLeDiff, Nat.reduceLT, Nat.reduceEqDiff, Int.reduceBEq, Int.reduceBNe, Int.reduceLT, Int.reduceLE, Int.reduceAdd, Int.reduceSub, Int.reduceMul]
    have hk' : k = xs.length := by
      have : ¬ k < xs.length := by simpa using h
      omega
    rw [hk']

theorem classes_ok (xs : List Int) : Ok Try.prog E 48 [.c (nums xs)] (nv (manyC xs xs.length)) := by
  refine ok_of_vc (L := []) (ts := [2]) envOK mixed Try.func48 rfl (by kernel_rfl) rfl (by kernel_rfl) rfl fun hl => ?_
  have hx := len_of (hl _ (List.mem_cons_self ..))
  rw [List.length_map] at hx
  simp only [Try.f48, nv, VL, VB, BEq.rfl, V1, V2, V3, V4, V5, V6, V7, V8, V9, V10, VE, Nat.reduceBEq, Nat.reduceAdd, Nat.reduceSub, Nat.reduceMul, Nat.reduceLeDiff, Nat.reduceLT, Nat.reduceEqDiff, Int.reduceBEq, Int.reduceBNe, Int.reduceLT, Int.reduceLE, Int.reduceAdd, Int.reduceSub, Int.reduceMul]
  refine LoopVC.mk (Y := Nat) (fun k => k ≤ xs.length) (fun k => ⟨[(0, .c (nums xs)), (3, .c (.sc (.int .i64 (manyC xs k)))), (4, .c (.sc (.int .i64 k)))], []⟩) (fun k => xs.length - k) ⟨0, Enter.id ?_, by omega⟩ ?_
  · simp only [manyC, List.range_zero, List.filter_nil, VL, VB, BEq.rfl, V1, V2, V3, V4, V5, V6, V7, V8, V9, V10, VE, Nat.reduceBEq, Nat.reduceAdd, Nat.reduceSub, Nat.reduceMul, Nat.reduceLeDiff, Nat.reduceLT, Nat.reduceEqDiff, Int.reduceBEq, Int.reduceBNe, Int.reduceLT, Int.reduceLE, Int.reduceAdd, Int.reduceSub, Int.reduceMul]
    exact ⟨rfl, rfl⟩
  intro k hk
  simp only [VL, VB, BEq.rfl, V1, V2, V3, V4, V5, V6, V7, V8, V9, V10, VE, Nat.reduceBEq, Nat.reduceAdd, Nat.reduceSub, Nat.reduceMul, Nat.reduceLeDiff, Nat.reduceLT, Nat.reduceEqDiff, Int.reduceBEq, Int.reduceBNe, Int.reduceLT, Int.reduceLE, Int.reduceAdd, Int.reduceSub, Int.reduceMul]
  refine guardB.mk (fun h => ?_) (fun h => ?_)
  · have hk' : k < xs.length := by simpa using h
    have hle := manyC_le xs k
    have hs := manyC_succ xs k
    obtain ⟨c, hc⟩ : ∃ c, xs.getD k 0 = c := ⟨_, rfl⟩
    rw [hc] at hs
    have hwrap : IntKind.i64.wrap ((k : Int) + 1) = ((k + 1 : Nat) : Int) := by rw [wrap_of (by omega) (by omega)]; rfl
    have hwrap2 : IntKind.i64.wrap ((manyC xs k : Int) + 1) = ((manyC xs k + 1 : Nat) : Int) := by rw [wrap_of (by omega) (by omega)]; rfl
    simp only [getD_num, hk', hc, hwrap, hwrap2, num_def, VL, VB, BEq.rfl, V1, V2, V3, V4, V5, V6, V7, V8, V9, V10, VE, Nat.reduceBEq, Nat.reduceAdd, Nat.reduceSub, Nat.reduceMul, Nat.reduceLeDiff, Nat.reduceLT, Nat.reduceEqDiff, Int.reduceBEq, Int.reduceBNe, Int.reduceLT, Int.reduceLE, Int.reduceAdd, Int.reduceSub, Int.reduceMul]
    refine ⟨Int.natCast_nonneg k, ?_⟩
    refine guardB.mk (fun h2 => ?_) (fun h2 => ?_) <;> simp only [h2, getD_num, hk', hc, hwrap, hwrap2, num_def, VL, VB, BEq.rfl, V1, V2, V3, V4, V5, V6, V7, V8, V9, V10, VE, Nat.reduceBEq, Nat.reduceAdd, Nat.reduceSub, Nat.reduceMul, Nat.reduceLeDiff, Nat.reduceLT, Nat.reduceEqDiff, Int.reduceBEq, Int.reduceBNe, Int.reduceLT, Int.reduceLE, Int.reduceAdd, Int.reduceSub, Int.reduceMul]
    · rw [if_pos (by simpa using h2)] at hs
      refine ⟨k + 1, Enter.id ?_, by omega, by show xs.length - (k + 1) < xs.length - k; omega⟩
      simp only [hs, getD_num, hk', hc, hwrap, hwrap2, num_def, VL, VB, BEq.rfl, V1, V2, V3, V4, V5, V6, V7, V8, V9, V10, VE, Nat.reduceBEq, Nat.reduceAdd, Nat.reduceSub, Nat.reduceMul, Nat.reduceLeDiff, Nat.reduceLT, Nat.reduceEqDiff, Int.reduceBEq, Int.reduceBNe, Int.reduceLT, Int.reduceLE, Int.reduceAdd, Int.reduceSub, Int.reduceMul]
    · rw [if_neg (by simpa using h2), Nat.add_zero] at hs
      refine ⟨k + 1, Enter.id ?_, by omega, by show xs.length - (k + 1) < xs.length - k; omega⟩
      simp only [hs, getD_num, hk', hc, hwrap, hwrap2, num_def, VL, VB, BEq.rfl, V1, V2, V3, V4, V5, V6, V7, V8, V9, V10, VE, Nat.reduceBEq, Nat.reduceAdd, Nat.reduceSub, Nat.reduceMul, Nat.reduceLeDiff, Nat.reduceLT, Nat.reduceEqDiff, Int.reduceBEq, Int.reduceBNe, Int.reduceLT, Int.reduceLE, Int.reduceAdd, Int.reduceSub, Int.reduceMul]
  · simp only [VL, VB, BEq.rfl, V1, V2, V3, V4, V5, V6, V7, V8, V9, V10, VE, Nat.reduceBEq, Nat.reduceAdd, Nat.reduceSub, Nat.reduceMul, Nat.reduceLeDiff, Nat.reduceLT, Nat.reduceEqDiff, Int.reduceBEq, Int.reduceBNe, Int.reduceLT, Int.reduceLE, Int.reduceAdd, Int.reduceSub, Int.reduceMul]
    have hk' : k = xs.length := by
      have : ¬ k < xs.length := by simpa using h
      omega
    rw [hk']

theorem Same_ok (xs ys : List Corr) : Ok Try.prog E 27 [.c (corrs xs), .c (corrs ys)] (bv (decide (xs = ys))) := by
  refine ok_of_vc (L := []) (ts := [4]) envOK mixed Try.func27 rfl (by kernel_rfl) rfl (by kernel_rfl) rfl fun hl => ?_
  have hx := len_of (hl _ (List.mem_cons_self ..))
  rw [List.length_map] at hx
  simp only [Try.f27, bv, VL, VB, BEq.rfl, V1, V2, V3, V4, V5, V6, V7, V8, V9, V10, VE, Nat.reduceBEq, Nat.reduceAdd, Nat.reduceSub, Nat.reduceMul, Nat.reduceLeDiff, Nat.reduceLT, Nat.reduceEqDiff, Int.reduceBEq, Int.reduceBNe, Int.reduceLT, Int.reduceLE, Int.reduceAdd, Int.reduceSub, Int.reduceMul]
  refine guardB.mk (fun h => ?_) (fun h => ?_)
  · simp only [VL, VB, BEq.rfl, V1, V2, V3, V4, V5, V6, V7, V8, V9, V10, VE, Nat.reduceBEq, Nat.reduceAdd, Nat.reduceSub, Nat.reduceMul, Nat.reduceLeDiff, Nat.reduceLT, Nat.reduceEqDiff, Int.reduceBEq, Int.reduceBNe, Int.reduceLT, Int.reduceLE, Int.reduceAdd, Int.reduceSub, Int.reduceMul]
    have hne : xs ≠ ys := by rintro rfl; simp at h
    rw [decide_eq_false hne]
  · simp only [VL, VB, BEq.rfl, V1, V2, V3, V4, V5, V6, V7, V8, V9, V10, VE, Nat.reduceBEq, Nat.reduceAdd, Nat.reduceSub, Nat.reduceMul, Nat.reduceLeDiff, Nat.reduceLT, Nat.reduceEqDiff, Int.reduceBEq, Int.reduceBNe, Int.reduceLT, Int.reduceLE, Int.reduceAdd, Int.reduceSub, Int.reduceMul]
    have hlen : xs.length = ys.length := by simpa [Int.natCast_inj] using h
    refine LoopVC.mk (Y := Nat) (fun k => k ≤ xs.length ∧ ∀ i < k, xs[i]? = ys[i]?) (fun k => ⟨[(0, .c (corrs xs)), (1, .c (corrs ys)), (5, .c (.sc (.int .i64 k)))], []⟩) (fun k => xs.length - k) ⟨0, Enter.id ?_, by omega, by omega⟩ ?_
    · simp only [VL, VB, BEq.rfl, V1, V2, V3, V4, V5, V6, V7, V8, V9, V10, VE, Nat.reduceBEq, Nat.reduceAdd, Nat.reduceSub, Nat.reduceMul, Nat.reduceLeDiff, Nat.reduceLT, Nat.reduceEqDiff, Int.reduceBEq, Int.reduceBNe, Int.reduceLT, Int.reduceLE, Int.reduceAdd, Int.reduceSub, Int.reduceMul]
      rfl
    · rintro k ⟨hk, hpre⟩
      simp only [VL, VB, BEq.rfl, V1, V2, V3, V4, V5, V6, V7, V8, V9, V10, VE, Nat.reduceBEq, Nat.reduceAdd, Nat.reduceSub, Nat.reduceMul, Nat.reduceLeDiff, Nat.reduceLT, Nat.reduceEqDiff, Int.reduceBEq, Int.reduceBNe, Int.reduceLT, Int.reduceLE, Int.reduceAdd, Int.reduceSub, Int.reduceMul]
      refine guardB.mk (fun h => ?_) (fun h => ?_)
      · have hk' : k < xs.length := by simpa using h
        have hky : k < ys.length := by omega
        obtain ⟨c, hc⟩ : ∃ c, xs.getD k Corr.zero = c := ⟨_, rfl⟩
        obtain ⟨d, hd⟩ : ∃ d, ys.getD k Corr.zero = d := ⟨_, rfl⟩
        have hwrap : IntKind.i64.wrap ((k : Int) + 1) = ((k + 1 : Nat) : Int) := by rw [wrap_of (by omega) (by omega)]; rfl
        have hno : c ≠ d → D.sc (Value.bool false) = D.sc (Value.bool (decide (xs = ys))) := fun hf => by
          have hne : xs ≠ ys := by
            rintro rfl
            exact hf (hc.symm.trans hd)
          rw [decide_eq_false hne]
        have hyes : c = d → ∀ i < k + 1, xs[i]? = ys[i]? := fun hf i hi => by
          by_cases hik : i = k
          · subst hik
            rw [← hc, ← hd] at hf
            simp only [List.getD, List.getElem?_eq_getElem hk', List.getElem?_eq_getElem hky, Option.getD_some] at hf
            rw [List.getElem?_eq_getElem hk', List.getElem?_eq_getElem hky, hf]
          · exact hpre i (by omega)
        simp only [getD_corr, hk', hky, hc, hd, hwrap, corr_def, num_beq, VL, VB, BEq.rfl, V1, V2, V3, V4, V5, V6, V7, V8, V9, V10, VE, Nat.reduceBEq, Nat.reduceAdd, Nat.reduceSub, Nat.reduceMul, Nat.reduceLeDiff, Nat.reduceLT, Nat.reduceEqDiff, Int.reduceBEq, Int.reduceBNe, Int.reduceLT, Int.reduceLE, Int.reduceAdd, Int.reduceSub, Int.reduceMul]
        refine ⟨Int.natCast_nonneg k, Int.natCast_nonneg k, guardB.mk (fun h2 => ?_) (fun h2 => ?_)⟩ <;> simp only [h2, getD_corr, hk', hky, hc, hd, hwrap, corr_def, num_beq, VL, VB, BEq.rfl, V1, V2, V3, V4, V5, V6, V7, V8, V9, V10, VE, Nat.reduceBEq, Nat.reduceAdd, Nat.reduceSub, Nat.reduceMul, Nat.reduceLeDiff, Nat.reduceLT, Nat.reduceEqDiff, Int.reduceBEq, Int.reduceBNe, Int.reduceLT, Int.reduceLE, Int.reduceAdd, Int.reduceSub, Int.reduceMul]
        · exact hno (by rintro rfl; simp at h2)
        · refine ⟨Int.natCast_nonneg k, Int.natCast_nonneg k, ?_⟩
          refine CallX.mk (same_ok c.cells d.cells) rfl ?_
          simp only [getD_corr, hk', hky, hc, hd, hwrap, corr_def, num_beq, VL, VB, BEq.rfl, V1, V2, V3, V4, V5, V6, V7, V8, V9, V10, VE, Nat.reduceBEq, Nat.reduceAdd, Nat.reduceSub, Nat.reduceMul, Nat.reduceLeDiff, Nat.reduceLT, Nat.reduceEqDiff, Int.reduceBEq, Int.reduceBNe, Int.reduceLT, Int.reduceLE, Int.reduceAdd, Int.reduceSub, Int.reduceMul]
          refine guardB.mk (fun h3 => ?_) (fun h3 => ?_) <;> simp only [h3, getD_corr, hk', hky, hc, hd, hwrap, corr_def, num_beq, VL, VB, BEq.rfl, V1, V2, V3, V4, V5, V6, V7, V8, V9, V10, VE, Nat.reduceBEq, Nat.reduceAdd, Nat.reduceSub, Nat.reduceMul, Nat.reduceLeDiff, Nat.reduceLT, Nat.reduceEqDiff, Int.reduceBEq, Int.reduceBNe, Int.reduceLT, Int.reduceLE, Int.reduceAdd, Int.reduceSub, Int.reduceMul]
          · exact hno (by rintro rfl; simp at h3)
          · refine ⟨k + 1, Enter.id ?_, ⟨by omega, hyes ?_⟩, by show xs.length - (k + 1) < xs.length - k; omega⟩
            · simp only [getD_corr, hk', hky, hc, hd, hwrap, corr_def, num_beq, VL, VB, BEq.rfl, V1, V2, V3, V4, V5, V6, V7, V8, V9, V10, VE, Nat.reduceBEq, Nat.reduceAdd, Nat.reduceSub, Nat.reduceMul, Nat.reduceLeDiff, Nat.reduceLT, Nat.reduceEqDiff, Int.reduceBEq, Int.reduceBNe, Int.reduceLT, Int.reduceLE, Int.reduceAdd, Int.reduceSub, Int.reduceMul]
            · cases c; cases d; simp_all
      · simp only [VL, VB, BEq.rfl, V1, V2, V3, V4, V5, V6, V7, V8, V9, V10, VE, Nat.reduceBEq, Nat.reduceAdd, Nat.reduceSub, Nat.reduceMul, Nat.reduceLeDiff, Nat.reduceLT, Nat.reduceEqDiff, Int.reduceBEq, Int.reduceBNe, Int.reduceLT, Int.reduceLE, Int.reduceAdd, Int.reduceSub, Int.reduceMul]
        have hk' : k = xs.length := by
          have : ¬ k < xs.length := by simpa using h
          omega
        have he : xs = ys := List.ext_getElem? fun i => by
          by_cases hi : i < k
          · exact hpre i hi
          · rw [List.getElem?_eq_none (by omega), List.getElem?_eq_none (by omega)]
        rw [decide_eq_true he]

end Go.Cp
end

section
set_option linter.unusedVariables false
set_option linter.unusedSimpArgs false
set_option maxHeartbeats 4000000
set_option maxRecDepth 10000
namespace Go.Cp
open Go Go.Proofs Go.Vx

def canonAt (xs : List Int) (i : Nat) : Bool := !decide (xs.getD i 0 < 0) && (!decide ((i : Int) < xs.getD i 0) && decide (xs.getD (xs.getD i 0).toNat 0 = xs.getD i 0))
def canonC (xs : List Int) : Bool := (List.range xs.length).all (canonAt xs)

theorem canonical_ok (xs : List Int) : Ok Try.prog E 49 [.c (nums xs)] (bv (canonC xs)) := by
  refine ok_of_vc (L := []) (ts := [2]) envOK mixed Try.func49 rfl (by kernel_rfl) rfl (by kernel_rfl) rfl fun hl => ?_
  have hx := len_of (hl _ (List.mem_cons_self ..))
  rw [List.length_map] at hx
  simp only [Try.f49, bv, VL, VB, BEq.rfl, V1, V2, V3, V4, V5, V6, V7, V8, V9, V10, VE, Nat.reduceBEq, Nat.reduceAdd, Nat.reduceSub, Nat.reduceMul, Nat.reduceLeDiff, Nat.reduceLT, Nat.reduceEqDiff, Int.reduceBEq, Int.reduceBNe, Int.reduceLT, Int.reduceLE, Int.reduceAdd, Int.reduceSub, Int.reduceMul]
  refine LoopVC.mk (Y := Nat) (fun k => k ≤ xs.length ∧ ∀ i < k, ∀ x, (List.range xs.length)[i]? = some x → canonAt xs x = true) (fun k => ⟨[(0, .c (nums xs)), (5, .c (nums xs)), (6, .c (.sc (.int .i64 xs.length))), (7, .c (.sc (.int .i64 k)))], []⟩) (fun k => xs.length - k) ⟨0, Enter.id ?_, by omega, by omega⟩ ?_
  · simp only [VL, VB, BEq.rfl, V1, V2, V3, V4, V5, V6, V7, V8, V9, V10, VE, Nat.reduceBEq, Nat.reduceAdd, Nat.reduceSub, Nat.reduceMul, Nat.reduceLeDiff, Nat.reduceLT, Nat.reduceEqDiff, Int.reduceBEq, Int.reduceBNe, Int.reduceLT, Int.reduceLE, Int.reduceAdd, Int.reduceSub, Int.reduceMul]
    rfl
  rintro k ⟨hk, hpre⟩
  simp only [VL, VB, BEq.rfl, V1, V2, V3, V4, V5, V6, V7, V8, V9, V10, VE, Nat.reduceBEq, Nat.reduceAdd, Nat.reduceSub, Nat.reduceMul, Nat.reduceLeDiff, Nat.reduceLT, Nat.reduceEqDiff, Int.reduceBEq, Int.reduceBNe, Int.reduceLT, Int.reduceLE, Int.reduceAdd, Int.reduceSub, Int.reduceMul]
  refine guardB.mk (fun h => ?_) (fun h => ?_)
  · have hk' : k < xs.length := by simpa using h
    obtain ⟨c, hc⟩ : ∃ c, xs.getD k 0 = c := ⟨_, rfl⟩
    have hwrap : IntKind.i64.wrap ((k : Int) + 1) = ((k + 1 : Nat) : Int) := by rw [wrap_of (by omega) (by omega)]; rfl
    have hno : canonAt xs k = false → D.sc (Value.bool false) = D.sc (Value.bool (canonC xs)) := fun hf => by rw [canonC, all_false (k := k) (z := 0) (by rw [List.length_range]; omega) (by rw [range_getD hk', hf])]
    have hyes : canonAt xs k = true → (∀ i < k + 1, ∀ x, (List.range xs.length)[i]? = some x → canonAt xs x = true) := fun hf => all_next (z := 0) (by rw [List.length_range]; omega) hpre (by rw [range_getD hk', hf])
    have hat : canonAt xs k = (!decide (c < 0) && (!decide ((k : Int) < c) && decide (xs.getD c.toNat 0 = c))) := by rw [canonAt, hc]
    simp only [getD_num, hk', hc, hwrap, num_def, num_beq, VL, VB, BEq.rfl, V1, V2, V3, V4, V5, V6, V7, V8, V9, V10, VE, Nat.reduceBEq, Nat.reduceAdd, Nat.reduceSub, Nat.reduceMul, Nat.reduceLeDiff, Nat.reduceLT, Nat.reduceEqDiff, Int.reduceBEq, Int.reduceBNe, Int.reduceLT, Int.reduceLE, Int.reduceAdd, Int.reduceSub, Int.reduceMul]
    refine ⟨Int.natCast_nonneg k, ?_⟩
    refine guardB.mk (fun h2 => ?_) (fun h2 => ?_) <;> simp only [h2, getD_num, hk', hc, hwrap, num_def, num_beq, VL, VB, BEq.rfl, V1, V2, V3, V4, V5, V6, V7, V8, V9, V10, VE, Nat.reduceBEq, Nat.reduceAdd, Nat.reduceSub, Nat.reduceMul, Nat.reduceLeDiff, Nat.reduceLT, Nat.reduceEqDiff, Int.reduceBEq, Int.reduceBNe, Int.reduceLT, Int.reduceLE, Int.reduceAdd, Int.reduceSub, Int.reduceMul]
    · exact hno (by rw [hat, h2]; rfl)
    · refine guardB.mk (fun h3 => ?_) (fun h3 => ?_) <;> simp only [h3, getD_num, hk', hc, hwrap, num_def, num_beq, VL, VB, BEq.rfl, V1, V2, V3, V4, V5, V6, V7, V8, V9, V10, VE, Nat.reduceBEq, Nat.reduceAdd, Nat.reduceSub, Nat.reduceMul, Nat.reduceLeDiff, Nat.reduceLT, Nat.reduceEqDiff, Int.reduceBEq, Int.reduceBNe, Int.reduceLT, Int.reduceLE, Int.reduceAdd, Int.reduceSub, Int.reduceMul]
      · exact hno (by rw [hat, h2, h3]; rfl)
      · have hcl : c.toNat < xs.length := by
          have h2' : ¬ c < 0 := by simpa using h2
          have h3' : ¬ (k : Int) < c := by simpa using h3
          omega
        have hc0 : 0 ≤ c := by
          have h2' : ¬ c < 0 := by simpa using h2
          omega
        simp only [hcl, getD_num, hk', hc, hwrap, num_def, num_beq, VL, VB, BEq.rfl, V1, V2, V3, V4, V5, V6, V7, V8, V9, V10, VE, Nat.reduceBEq, Nat.reduceAdd, Nat.reduceSub, Nat.reduceMul, Nat.reduceLeDiff, Nat.reduceLT, Nat.reduceEqDiff, Int.reduceBEq, Int.reduceBNe, Int.reduceLT, Int.reduceLE, Int.reduceAdd, Int.reduceSub, Int.reduceMul]
        refine ⟨hc0, guardB.mk (fun h4 => ?_) (fun h4 => ?_)⟩ <;> simp only [h4, getD_num, hk', hc, hwrap, num_def, num_beq, VL, VB, BEq.rfl, V1, V2, V3, V4, V5, V6, V7, V8, V9, V10, VE, Nat.reduceBEq, Nat.reduceAdd, Nat.reduceSub, Nat.reduceMul, Nat.reduceLeDiff, Nat.reduceLT, Nat.reduceEqDiff, Int.reduceBEq, Int.reduceBNe, Int.reduceLT, Int.reduceLE, Int.reduceAdd, Int.reduceSub, Int.reduceMul]
        · exact hno (by rw [hat, h2, h3]; simpa using h4)
        · refine ⟨k + 1, Enter.id ?_, ⟨by omega, hyes (by rw [hat, h2, h3]; simpa using h4)⟩, by show xs.length - (k + 1) < xs.length - k; omega⟩
          simp only [getD_num, hk', hc, hwrap, num_def, num_beq, VL, VB, BEq.rfl, V1, V2, V3, V4, V5, V6, V7, V8, V9, V10, VE, Nat.reduceBEq, Nat.reduceAdd, Nat.reduceSub, Nat.reduceMul, Nat.reduceLeDiff, Nat.reduceLT, Nat.reduceEqDiff, Int.reduceBEq, Int.reduceBNe, Int.reduceLT, Int.reduceLE, Int.reduceAdd, Int.reduceSub, Int.reduceMul]
  · simp only [VL, VB, BEq.rfl, V1, V2, V3, V4, V5, V6, V7, V8, V9, V10, VE, Nat.reduceBEq, Nat.reduceAdd, Nat.reduceSub, Nat.reduceMul, Nat.reduceLeDiff, Nat.reduceLT, Nat.reduceEqDiff, Int.reduceBEq, Int.reduceBNe, Int.reduceLT, Int.reduceLE, Int.reduceAdd, Int.reduceSub, Int.reduceMul]
    have hk' : ¬ k < xs.length := by simpa using h
    rw [canonC, all_true (by rw [List.length_range]; exact hk') hpre]

theorem rcanonical_ok (xs : List Int) : Ok Try.prog E 50 [.c (nums xs)] (bv (canonC xs)) := by
  refine ok_of_vc (L := []) (ts := [2]) envOK mixed Try.func50 rfl (by kernel_rfl) rfl (by kernel_rfl) rfl fun hl => ?_
  have hx := len_of (hl _ (List.mem_cons_self ..))
  rw [List.length_map] at hx
  simp only [Try.f50, bv, VL, VB, BEq.rfl, V1, V2, V3, V4, V5, V6, V7, V8, V9, V10, VE, Nat.reduceBEq, Nat.reduceAdd, Nat.reduceSub, Nat.reduceMul, Nat.reduceLeDiff, Nat.reduceLT, Nat.reduceEqDiff, Int.reduceBEq, Int.reduceBNe, Int.reduceLT, Int.reduceLE, Int.reduceAdd, Int.reduceSub, Int.reduceMul]
  refine LoopVC.mk (Y := Nat) (fun k => k ≤ xs.length ∧ ∀ i < k, ∀ x, (List.range xs.length)[i]? = some x → canonAt xs x = true) (fun k => ⟨[(0, .c (nums xs)), (3, .c (.sc (.int .i64 k)))], []⟩) (fun k => xs.length - k) ⟨0, Enter.id ?_, by omega, by omega⟩ ?_
  · simp only [VL, VB, BEq.rfl, V1, V2, V3, V4, V5, V6, V7, V8, V9, V10, VE, Nat.reduceBEq, Nat.reduceAdd, Nat.reduceSub, Nat.reduceMul, Nat.reduceLeDiff, Nat.reduceLT, Nat.reduceEqDiff, Int.reduceBEq, Int.reduceBNe, Int.reduceLT, Int.reduceLE, Int.reduceAdd, Int.reduceSub, Int.reduceMul]
    rfl
  rintro k ⟨hk, hpre⟩
  simp only [VL, VB, BEq.rfl, V1, V2, V3, V4, V5, V6, V7, V8, V9, V10, VE, Nat.reduceBEq, Nat.reduceAdd, Nat.reduceSub, Nat.reduceMul, Nat.reduceLeDiff, Nat.reduceLT, Nat.reduceEqDiff, Int.reduceBEq, Int.reduceBNe, Int.reduceLT, Int.reduceLE, Int.reduceAdd, Int.reduceSub, Int.reduceMul]
  refine guardB.mk (fun h => ?_) (fun h => ?_)
  · have hk' : k < xs.length := by simpa using h
    obtain ⟨c, hc⟩ : ∃ c, xs.getD k 0 = c := ⟨_, rfl⟩
    have hwrap : IntKind.i64.wrap ((k : Int) + 1) = ((k + 1 : Nat) : Int) := by rw [wrap_of (by omega) (by omega)]; rfl
    have hno : canonAt xs k = false → D.sc (Value.bool false) = D.sc (Value.bool (canonC xs)) := fun hf => by rw [canonC, all_false (k := k) (z := 0) (by rw [List.length_range]; omega) (by rw [range_getD hk', hf])]
    have hyes : canonAt xs k = true → (∀ i < k + 1, ∀ x, (List.range xs.length)[i]? = some x → canonAt xs x = true) := fun hf => all_next (z := 0) (by rw [List.length_range]; omega) hpre (by rw [range_getD hk', hf])
    have hat : canonAt xs k = (!decide (c < 0) && (!decide ((k : Int) < c) && decide (xs.getD c.toNat 0 = c))) := by rw [canonAt, hc]
    simp only [getD_num, hk', hc, hwrap, num_def, num_beq, VL, VB, BEq.rfl, V1, V2, V3, V4, V5, V6, V7, V8, V9, V10, VE, Nat.reduceBEq, Nat.reduceAdd, Nat.reduceSub, Nat.reduceMul, Nat.reduceLeDiff, Nat.reduceLT, Nat.reduceEqDiff, Int.reduceBEq, Int.reduceBNe, Int.reduceLT, Int.reduceLE, Int.reduceAdd, Int.reduceSub, Int.reduceMul]
    refine ⟨Int.natCast_nonneg k, ?_⟩
    refine guardB.mk (fun h2 => ?_) (fun h2 => ?_) <;> simp only [h2, getD_num, hk', hc, hwrap, num_def, num_beq, VL, VB, BEq.rfl, V1, V2, V3, V4, V5, V6, V7, V8, V9, V10, VE, Nat.reduceBEq, Nat.reduceAdd, Nat.reduceSub, Nat.reduceMul, Nat.reduceLeDiff, Nat.reduceLT, Nat.reduceEqDiff, Int.reduceBEq, Int.reduceBNe, Int.reduceLT, Int.reduceLE, Int.reduceAdd, Int.reduceSub, Int.reduceMul]
    · exact hno (by rw [hat, h2]; rfl)
    · refine ⟨Int.natCast_nonneg k, ?_⟩
      refine guardB.mk (fun h3 => ?_) (fun h3 => ?_) <;> simp only [h3, getD_num, hk', hc, hwrap, num_def, num_beq, VL, VB, BEq.rfl, V1, V2, V3, V4, V5, V6, V7, V8, V9, V10, VE, Nat.reduceBEq, Nat.reduceAdd, Nat.reduceSub, Nat.reduceMul, Nat.reduceLeDiff, Nat.reduceLT, Nat.reduceEqDiff, Int.reduceBEq, Int.reduceBNe, Int.reduceLT, Int.reduceLE, Int.reduceAdd, Int.reduceSub, Int.reduceMul]
      · exact hno (by rw [hat, h2, h3]; rfl)
      · have hcl : c.toNat < xs.length := by
          have h2' : ¬ c < 0 := by simpa using h2
          have h3' : ¬ (k : Int) < c := by simpa using h3
          omega
        have hc0 : 0 ≤ c := by
          have h2' : ¬ c < 0 := by simpa using h2
          omega
        simp only [hcl, getD_num, hk', hc, hwrap, num_def, num_beq, VL, VB, BEq.rfl, V1, V2, V3, V4, V5, V6, V7, V8, V9, V10, VE, Nat.reduceBEq, Nat.reduceAdd, Nat.reduceSub, Nat.reduceMul, Nat.reduceLeDiff, Nat.reduceLT, Nat.reduceEqDiff, Int.reduceBEq, Int.reduceBNe, Int.reduceLT, Int.reduceLE, Int.reduceAdd, Int.reduceSub, Int.reduceMul]
        refine ⟨Int.natCast_nonneg k, hc0, Int.natCast_nonneg k, guardB.mk (fun h4 => ?_) (fun h4 => ?_)⟩ <;> simp only [h4, getD_num, hk', hc, hwrap, num_def, num_beq, VL, VB, BEq.rfl, V1, V2, V3, V4, V5, V6, V7, V8, V9, V10, VE, Nat.reduceBEq, Nat.reduceAdd, Nat.reduceSub, Nat.reduceMul, Nat.reduceLeDiff, Nat.reduceLT, Nat.reduceEqDiff, Int.reduceBEq, Int.reduceBNe, Int.reduceLT, Int.reduceLE, Int.reduceAdd, Int.reduceSub, Int.reduceMul]
        · exact hno (by rw [hat, h2, h3]; simpa using h4)
        · refine ⟨k + 1, Enter.id ?_, ⟨by omega, hyes (by rw [hat, h2, h3]; simpa using h4)⟩, by show xs.length - (k + 1) < xs.length - k; omega⟩
          simp only [getD_num, hk', hc, hwrap, num_def, num_beq, VL, VB, BEq.rfl, V1, V2, V3, V4, V5, V6, V7, V8, V9, V10, VE, Nat.reduceBEq, Nat.reduceAdd, Nat.reduceSub, Nat.reduceMul, Nat.reduceLeDiff, Nat.reduceLT, Nat.reduceEqDiff, Int.reduceBEq, Int.reduceBNe, Int.reduceLT, Int.reduceLE, Int.reduceAdd, Int.reduceSub, Int.reduceMul]
  · simp only [VL, VB, BEq.rfl, V1, V2, V3, V4, V5, V6, V7, V8, V9, V10, VE, Nat.reduceBEq, Nat.reduceAdd, Nat.reduceSub, Nat.reduceMul, Nat.reduceLeDiff, Nat.reduceLT, Nat.reduceEqDiff, Int.reduceBEq, Int.reduceBNe, Int.reduceLT, Int.reduceLE, Int.reduceAdd, Int.reduceSub, Int.reduceMul]
    have hk' : ¬ k < xs.length := by simpa using h
    rw [canonC, all_true (by rw [List.length_range]; exact hk') hpre]

end Go.Cp
end

section
set_option linter.unusedVariables false
set_option linter.unusedSimpArgs false
set_option maxHeartbeats 4000000
set_option maxRecDepth 10000
namespace Go.Cp
open Go Go.Proofs Go.Vx

theorem copied_ok (l : List Corr) (hb : l.length * 32 ≤ 140737488355328) (hc : ∀ c ∈ l, c.cells.length * 16 ≤ 140737488355328) : Ok Try.prog E 19 [.c (corrs l)] (.fr 52 (l.map Corr.enc)) := by
  refine ok_of_vc (L := [(5, [(1, 4), (1, 5), (1, 6), (1, 10), (1, 11), (1, 12), (7, 10), (7, 11), (7, 12)])]) (ts := [2]) envOK mixed Try.func19 rfl (by kernel_rfl) rfl (by kernel_rfl) rfl fun hl => ?_
  simp only [Try.f19, VL, VB, BEq.rfl, V1, V2, V3, V4, V5, V6, V7, V8, V9, V10, VE, Nat.reduceBEq, Nat.reduceAdd, Nat.reduceSub, Nat.reduceMul, Nat.reduceLeDiff, Nat.reduceLT, Nat.reduceEqDiff, Int.reduceBEq, Int.reduceBNe, Int.reduceLT, Int.reduceLE, Int.reduceAdd, Int.reduceSub, Int.reduceMul]
  refine LoopVC.mk (Y := Nat) (fun k => k ≤ l.length) (fun k => ⟨[(0, .c (corrs l)), (3, .osl 1000 0), (4, .c (.sc (.int .i64 k)))], [(1000, .arr 52 0 ((l.take k).map Corr.enc))]⟩) (fun k => l.length - k) ⟨0, Enter.mk [(3, (1000, 52))] [] [] ?_, by omega⟩ ?_
  · simp only [List.take_zero, Option.isSome_some, VL, VB, BEq.rfl, V1, V2, V3, V4, V5, V6, V7, V8, V9, V10, VE, Nat.reduceBEq, Nat.reduceAdd, Nat.reduceSub, Nat.reduceMul, Nat.reduceLeDiff, Nat.reduceLT, Nat.reduceEqDiff, Int.reduceBEq, Int.reduceBNe, Int.reduceLT, Int.reduceLE, Int.reduceAdd, Int.reduceSub, Int.reduceMul]
    rfl
  intro k hk
  simp only [VL, VB, BEq.rfl, V1, V2, V3, V4, V5, V6, V7, V8, V9, V10, VE, Nat.reduceBEq, Nat.reduceAdd, Nat.reduceSub, Nat.reduceMul, Nat.reduceLeDiff, Nat.reduceLT, Nat.reduceEqDiff, Int.reduceBEq, Int.reduceBNe, Int.reduceLT, Int.reduceLE, Int.reduceAdd, Int.reduceSub, Int.reduceMul]
  refine guardB.mk (fun h => ?_) (fun h => ?_)
  · have hk' : k < l.length := by simpa using h
    obtain ⟨c, hcc⟩ : ∃ c, l.getD k Corr.zero = c := ⟨_, rfl⟩
    have hwrap : IntKind.i64.wrap ((k : Int) + 1) = ((k + 1 : Nat) : Int) := by rw [wrap_of (by omega) (by omega)]; rfl
    have hmem : c ∈ l := by rw [← hcc, List.getD, List.getElem?_eq_getElem hk', Option.getD_some]; exact List.getElem_mem hk'
    have htk : (l.take k).length = k := by rw [List.length_take]; omega
    have hn : l.take (k + 1) = l.take k ++ [c] := by
      rw [List.take_add_one, ← hcc, List.getD, List.getElem?_eq_getElem hk']
      rfl
    simp only [hwrap, getD_corr, hk', hcc, corr_def, VL, VB, BEq.rfl, V1, V2, V3, V4, V5, V6, V7, V8, V9, V10, VE, Nat.reduceBEq, Nat.reduceAdd, Nat.reduceSub, Nat.reduceMul, Nat.reduceLeDiff, Nat.reduceLT, Nat.reduceEqDiff, Int.reduceBEq, Int.reduceBNe, Int.reduceLT, Int.reduceLE, Int.reduceAdd, Int.reduceSub, Int.reduceMul]
    refine ⟨Int.natCast_nonneg k, ⟨hc c hmem, allLen_enc _⟩, Int.natCast_nonneg k, ⟨by omega, allLen_one rfl⟩, k + 1, Enter.id ?_, by omega, by show l.length - (k + 1) < l.length - k; omega⟩
    simp only [hn, List.map_append, getD_corr, hk', hcc, corr_def, VL, VB, BEq.rfl, V1, V2, V3, V4, V5, V6, V7, V8, V9, V10, VE, Nat.reduceBEq, Nat.reduceAdd, Nat.reduceSub, Nat.reduceMul, Nat.reduceLeDiff, Nat.reduceLT, Nat.reduceEqDiff, Int.reduceBEq, Int.reduceBNe, Int.reduceLT, Int.reduceLE, Int.reduceAdd, Int.reduceSub, Int.reduceMul]
  · simp only [VL, VB, BEq.rfl, V1, V2, V3, V4, V5, V6, V7, V8, V9, V10, VE, Nat.reduceBEq, Nat.reduceAdd, Nat.reduceSub, Nat.reduceMul, Nat.reduceLeDiff, Nat.reduceLT, Nat.reduceEqDiff, Int.reduceBEq, Int.reduceBNe, Int.reduceLT, Int.reduceLE, Int.reduceAdd, Int.reduceSub, Int.reduceMul]
    have hk' : ¬ k < l.length := by simpa using h
    rw [List.take_of_length_le (by omega)]

end Go.Cp
end

section
set_option linter.unusedVariables false
set_option linter.unusedSimpArgs false
set_option maxHeartbeats 4000000
set_option maxRecDepth 10000
namespace Go.Cp
open Go Go.Proofs Go.Vx

def lightP (c : Corr) : Bool := !decide (20 < c.cells.length)
def lightC (l : List Corr) : Bool := l.all lightP && (decide (l.length ≤ 16) || (decide (256 < l.length) && decide (l.length ≤ 300)))
theorem gt_nat {a b : Nat} : decide ((a : Int) < (b : Int)) = decide (a < b) := by congr 1; exact propext ⟨fun h => by omega, fun h => by omega⟩
theorem le_nat {a b : Nat} : decide ((a : Int) ≤ (b : Int)) = decide (a ≤ b) := by congr 1; exact propext ⟨fun h => by omega, fun h => by omega⟩

theorem light_ok (l : List Corr) : Ok Try.prog E 18 [.c (corrs l)] (bv (lightC l)) := by
  refine ok_of_vc (L := []) (ts := [2]) envOK mixed Try.func18 rfl (by kernel_rfl) rfl (by kernel_rfl) rfl fun hl => ?_
  have hx := len_of (hl _ (List.mem_cons_self ..))
  rw [List.length_map] at hx
  simp only [Try.f18, bv, VL, VB, BEq.rfl, V1, V2, V3, V4, V5, V6, V7, V8, V9, V10, VE, Nat.reduceBEq, Nat.reduceAdd, Nat.reduceSub, Nat.reduceMul, Nat.reduceLeDiff, Nat.reduceLT, Nat.reduceEqDiff, Int.reduceBEq, Int.reduceBNe, Int.reduceLT, Int.reduceLE, Int.reduceAdd, Int.reduceSub, Int.reduceMul]
  refine LoopVC.mk (Y := Nat) (fun k => k ≤ l.length ∧ ∀ i < k, ∀ x, l[i]? = some x → lightP x = true) (fun k => ⟨[(0, .c (corrs l)), (3, .c (.sc (.int .i64 k)))], []⟩) (fun k => l.length - k) ⟨0, Enter.id ?_, by omega, by omega⟩ ?_
  · simp only [VL, VB, BEq.rfl, V1, V2, V3, V4, V5, V6, V7, V8, V9, V10, VE, Nat.reduceBEq, Nat.reduceAdd, Nat.reduceSub, Nat.reduceMul, Nat.reduceLeDiff, Nat.reduceLT, Nat.reduceEqDiff, Int.reduceBEq, Int.reduceBNe, Int.reduceLT, Int.reduceLE, Int.reduceAdd, Int.reduceSub, Int.reduceMul]
    rfl
  rintro k ⟨hk, hpre⟩
  simp only [VL, VB, BEq.rfl, V1, V2, V3, V4, V5, V6, V7, V8, V9, V10, VE, Nat.reduceBEq, Nat.reduceAdd, Nat.reduceSub, Nat.reduceMul, Nat.reduceLeDiff, Nat.reduceLT, Nat.reduceEqDiff, Int.reduceBEq, Int.reduceBNe, Int.reduceLT, Int.reduceLE, Int.reduceAdd, Int.reduceSub, Int.reduceMul]
  refine guardB.mk (fun h => ?_) (fun h => ?_)
  · have hk' : k < l.length := by simpa using h
    obtain ⟨c, hc⟩ : ∃ c, l.getD k Corr.zero = c := ⟨_, rfl⟩
    have hwrap : IntKind.i64.wrap ((k : Int) + 1) = ((k + 1 : Nat) : Int) := by rw [wrap_of (by omega) (by omega)]; rfl
    have hlen : decide ((20 : Int) < (c.cells.length : Int)) = decide (20 < c.cells.length) := gt_nat (a := 20)
    have hno : lightP c = false → D.sc (Value.bool false) = D.sc (Value.bool (lightC l)) := fun hf => by rw [lightC, all_false (z := Corr.zero) hk' (by rw [hc]; exact hf)]; rfl
    have hyes : lightP c = true → (∀ i < k + 1, ∀ x, l[i]? = some x → lightP x = true) := fun hf => all_next (z := Corr.zero) hk' hpre (by rw [hc]; exact hf)
    simp only [getD_corr, hk', hc, hwrap, hlen, corr_def, VL, VB, BEq.rfl, V1, V2, V3, V4, V5, V6, V7, V8, V9, V10, VE, Nat.reduceBEq, Nat.reduceAdd, Nat.reduceSub, Nat.reduceMul, Nat.reduceLeDiff, Nat.reduceLT, Nat.reduceEqDiff, Int.reduceBEq, Int.reduceBNe, Int.reduceLT, Int.reduceLE, Int.reduceAdd, Int.reduceSub, Int.reduceMul]
    refine ⟨Int.natCast_nonneg k, guardB.mk (fun h2 => ?_) (fun h2 => ?_)⟩ <;> simp only [h2, getD_corr, hk', hc, hwrap, hlen, corr_def, VL, VB, BEq.rfl, V1, V2, V3, V4, V5, V6, V7, V8, V9, V10, VE, Nat.reduceBEq, Nat.reduceAdd, Nat.reduceSub, Nat.reduceMul, Nat.reduceLeDiff, Nat.reduceLT, Nat.reduceEqDiff, Int.reduceBEq, Int.reduceBNe, Int.reduceLT, Int.reduceLE, Int.reduceAdd, Int.reduceSub, Int.reduceMul]
    · exact hno (by rw [lightP, h2]; rfl)
    · refine ⟨k + 1, Enter.id ?_, ⟨by omega, hyes (by rw [lightP, h2]; rfl)⟩, by show l.length - (k + 1) < l.length - k; omega⟩
      simp only [getD_corr, hk', hc, hwrap, hlen, corr_def, VL, VB, BEq.rfl, V1, V2, V3, V4, V5, V6, V7, V8, V9, V10, VE, Nat.reduceBEq, Nat.reduceAdd, Nat.reduceSub, Nat.reduceMul, Nat.reduceLeDiff, Nat.reduceLT, Nat.reduceEqDiff, Int.reduceBEq, Int.reduceBNe, Int.reduceLT, Int.reduceLE, Int.reduceAdd, Int.reduceSub, Int.reduceMul]
  · have hk' : ¬ k < l.length := by simpa using h
    have hall : l.all lightP = true := all_true hk' hpre
    have e1 : decide ((l.length : Int) ≤ 16) = decide (l.length ≤ 16) := le_nat (b := 16)
    have e2 : decide ((256 : Int) < (l.length : Int)) = decide (256 < l.length) := gt_nat (a := 256)
    have e3 : decide ((l.length : Int) ≤ 300) = decide (l.length ≤ 300) := le_nat (b := 300)
    simp only [e1, e2, e3, VL, VB, BEq.rfl, V1, V2, V3, V4, V5, V6, V7, V8, V9, V10, VE, Nat.reduceBEq, Nat.reduceAdd, Nat.reduceSub, Nat.reduceMul, Nat.reduceLeDiff, Nat.reduceLT, Nat.reduceEqDiff, Int.reduceBEq, Int.reduceBNe, Int.reduceLT, Int.reduceLE, Int.reduceAdd, Int.reduceSub, Int.reduceMul]
    refine guardB.mk (fun h2 => ?_) (fun h2 => ?_) <;> simp only [h2, e1, e2, e3, VL, VB, BEq.rfl, V1, V2, V3, V4, V5, V6, V7, V8, V9, V10, VE, Nat.reduceBEq, Nat.reduceAdd, Nat.reduceSub, Nat.reduceMul, Nat.reduceLeDiff, Nat.reduceLT, Nat.reduceEqDiff, Int.reduceBEq, Int.reduceBNe, Int.reduceLT, Int.reduceLE, Int.reduceAdd, Int.reduceSub, Int.reduceMul]
    · rw [lightC, hall, h2]; rfl
    · refine guardB.mk (fun h3 => ?_) (fun h3 => ?_) <;> simp only [h3, e1, e2, e3, VL, VB, BEq.rfl, V1, V2, V3, V4, V5, V6, V7, V8, V9, V10, VE, Nat.reduceBEq, Nat.reduceAdd, Nat.reduceSub, Nat.reduceMul, Nat.reduceLeDiff, Nat.reduceLT, Nat.reduceEqDiff, Int.reduceBEq, Int.reduceBNe, Int.reduceLT, Int.reduceLE, Int.reduceAdd, Int.reduceSub, Int.reduceMul]
      · rw [lightC, hall, h2, h3]; simp
      · rw [lightC, hall, h2, h3]; rfl

def knowP (p : Cell × Cell) : Bool := decide (p.2.kind = 0) || decide (p.1 = p.2)
def knowsC (xs ys : List Cell) : Bool := decide (xs.length = ys.length) && (xs.zip ys).all knowP

theorem knows_ok (xs ys : List Cell) : Ok Try.prog E 33 [.c (cells xs), .c (cells ys)] (bv (knowsC xs ys)) := by
  refine ok_of_vc (L := []) (ts := [4]) envOK mixed Try.func33 rfl (by kernel_rfl) rfl (by kernel_rfl) rfl fun hl => ?_
  have hx := len_of (hl _ (List.mem_cons_self ..))
  rw [List.length_map] at hx
  simp only [Try.f33, bv, len_ne', VL, VB, BEq.rfl, V1, V2, V3, V4, V5, V6, V7, V8, V9, V10, VE, Nat.reduceBEq, Nat.reduceAdd, Nat.reduceSub, Nat.reduceMul, Nat.reduceLeDiff, Nat.reduceLT, Nat.reduceEqDiff, Int.reduceBEq, Int.reduceBNe, Int.reduceLT, Int.reduceLE, Int.reduceAdd, Int.reduceSub, Int.reduceMul]
  refine guardB.mk (fun h => ?_) (fun h => ?_)
  · simp only [VL, VB, BEq.rfl, V1, V2, V3, V4, V5, V6, V7, V8, V9, V10, VE, Nat.reduceBEq, Nat.reduceAdd, Nat.reduceSub, Nat.reduceMul, Nat.reduceLeDiff, Nat.reduceLT, Nat.reduceEqDiff, Int.reduceBEq, Int.reduceBNe, Int.reduceLT, Int.reduceLE, Int.reduceAdd, Int.reduceSub, Int.reduceMul]
    have hne : ¬ xs.length = ys.length := by simpa using h
    rw [knowsC, decide_eq_false hne, Bool.false_and]
  · simp only [VL, VB, BEq.rfl, V1, V2, V3, V4, V5, V6, V7, V8, V9, V10, VE, Nat.reduceBEq, Nat.reduceAdd, Nat.reduceSub, Nat.reduceMul, Nat.reduceLeDiff, Nat.reduceLT, Nat.reduceEqDiff, Int.reduceBEq, Int.reduceBNe, Int.reduceLT, Int.reduceLE, Int.reduceAdd, Int.reduceSub, Int.reduceMul]
    have hlen : xs.length = ys.length := by simpa using h
    have hsp : knowsC xs ys = (xs.zip ys).all knowP := by rw [knowsC, decide_eq_true hlen, Bool.true_and]
    have hz : (xs.zip ys).length = xs.length := by rw [List.length_zip]; omega
    refine LoopVC.mk (Y := Nat) (fun k => k ≤ xs.length ∧ ∀ i < k, ∀ x, (xs.zip ys)[i]? = some x → knowP x = true) (fun k => ⟨[(0, .c (cells xs)), (1, .c (cells ys)), (5, .c (.sc (.int .i64 k)))], []⟩) (fun k => xs.length - k) ⟨0, Enter.id ?_, by omega, by omega⟩ ?_
    · simp only [VL, VB, BEq.rfl, V1, V2, V3, V4, V5, V6, V7, V8, V9, V10, VE, Nat.reduceBEq, Nat.reduceAdd, Nat.reduceSub, Nat.reduceMul, Nat.reduceLeDiff, Nat.reduceLT, Nat.reduceEqDiff, Int.reduceBEq, Int.reduceBNe, Int.reduceLT, Int.reduceLE, Int.reduceAdd, Int.reduceSub, Int.reduceMul]
      rfl
    · rintro k ⟨hk, hpre⟩
      simp only [VL, VB, BEq.rfl, V1, V2, V3, V4, V5, V6, V7, V8, V9, V10, VE, Nat.reduceBEq, Nat.reduceAdd, Nat.reduceSub, Nat.reduceMul, Nat.reduceLeDiff, Nat.reduceLT, Nat.reduceEqDiff, Int.reduceBEq, Int.reduceBNe, Int.reduceLT, Int.reduceLE, Int.reduceAdd, Int.reduceSub, Int.reduceMul]
      refine guardB.mk (fun h => ?_) (fun h => ?_)
      · have hk' : k < xs.length := by simpa using h
        have hky : k < ys.length := by omega
        obtain ⟨c, hc⟩ : ∃ c, xs.getD k Cell.zero = c := ⟨_, rfl⟩
        obtain ⟨d, hd⟩ : ∃ d, ys.getD k Cell.zero = d := ⟨_, rfl⟩
        have hzk : (xs.zip ys).getD k (Cell.zero, Cell.zero) = (c, d) := by rw [zip_getD hk' hky, hc, hd]
        have hwrap : IntKind.i64.wrap ((k : Int) + 1) = ((k + 1 : Nat) : Int) := by rw [wrap_of (by omega) (by omega)]; rfl
        have hno : knowP (c, d) = false → D.sc (Value.bool false) = D.sc (Value.bool (knowsC xs ys)) := fun hf => by rw [hsp, all_false (k := k) (z := (Cell.zero, Cell.zero)) (by omega) (by rw [hzk]; exact hf)]
        have hyes : knowP (c, d) = true → (∀ i < k + 1, ∀ x, (xs.zip ys)[i]? = some x → knowP x = true) := fun hf => all_next (z := (Cell.zero, Cell.zero)) (by omega) hpre (by rw [hzk]; exact hf)
        simp only [getD_enc, hk', hky, hc, hd, hwrap, enc_def, cell_beq, num_beq, VL, VB, BEq.rfl, V1, V2, V3, V4, V5, V6, V7, V8, V9, V10, VE, Nat.reduceBEq, Nat.reduceAdd, Nat.reduceSub, Nat.reduceMul, Nat.reduceLeDiff, Nat.reduceLT, Nat.reduceEqDiff, Int.reduceBEq, Int.reduceBNe, Int.reduceLT, Int.reduceLE, Int.reduceAdd, Int.reduceSub, Int.reduceMul]
        refine ⟨Int.natCast_nonneg k, guardB.mk (fun h2 => ?_) (fun h2 => ?_)⟩ <;> simp only [h2, getD_enc, hk', hky, hc, hd, hwrap, enc_def, cell_beq, num_beq, VL, VB, BEq.rfl, V1, V2, V3, V4, V5, V6, V7, V8, V9, V10, VE, Nat.reduceBEq, Nat.reduceAdd, Nat.reduceSub, Nat.reduceMul, Nat.reduceLeDiff, Nat.reduceLT, Nat.reduceEqDiff, Int.reduceBEq, Int.reduceBNe, Int.reduceLT, Int.reduceLE, Int.reduceAdd, Int.reduceSub, Int.reduceMul]
        · refine ⟨Int.natCast_nonneg k, Int.natCast_nonneg k, guardB.mk (fun h3 => ?_) (fun h3 => ?_)⟩ <;> simp only [h3, getD_enc, hk', hky, hc, hd, hwrap, enc_def, cell_beq, num_beq, VL, VB, BEq.rfl, V1, V2, V3, V4, V5, V6, V7, V8, V9, V10, VE, Nat.reduceBEq, Nat.reduceAdd, Nat.reduceSub, Nat.reduceMul, Nat.reduceLeDiff, Nat.reduceLT, Nat.reduceEqDiff, Int.reduceBEq, Int.reduceBNe, Int.reduceLT, Int.reduceLE, Int.reduceAdd, Int.reduceSub, Int.reduceMul]
          · exact hno (by simp_all [knowP])
          · refine ⟨k + 1, Enter.id ?_, ⟨by omega, hyes (by simp_all [knowP])⟩, by show xs.length - (k + 1) < xs.length - k; omega⟩
            simp only [getD_enc, hk', hky, hc, hd, hwrap, enc_def, cell_beq, num_beq, VL, VB, BEq.rfl, V1, V2, V3, V4, V5, V6, V7, V8, V9, V10, VE, Nat.reduceBEq, Nat.reduceAdd, Nat.reduceSub, Nat.reduceMul, Nat.reduceLeDiff, Nat.reduceLT, Nat.reduceEqDiff, Int.reduceBEq, Int.reduceBNe, Int.reduceLT, Int.reduceLE, Int.reduceAdd, Int.reduceSub, Int.reduceMul]
        · refine ⟨k + 1, Enter.id ?_, ⟨by omega, hyes (by simp_all [knowP])⟩, by show xs.length - (k + 1) < xs.length - k; omega⟩
          simp only [getD_enc, hk', hky, hc, hd, hwrap, enc_def, cell_beq, num_beq, VL, VB, BEq.rfl, V1, V2, V3, V4, V5, V6, V7, V8, V9, V10, VE, Nat.reduceBEq, Nat.reduceAdd, Nat.reduceSub, Nat.reduceMul, Nat.reduceLeDiff, Nat.reduceLT, Nat.reduceEqDiff, Int.reduceBEq, Int.reduceBNe, Int.reduceLT, Int.reduceLE, Int.reduceAdd, Int.reduceSub, Int.reduceMul]
      · simp only [VL, VB, BEq.rfl, V1, V2, V3, V4, V5, V6, V7, V8, V9, V10, VE, Nat.reduceBEq, Nat.reduceAdd, Nat.reduceSub, Nat.reduceMul, Nat.reduceLeDiff, Nat.reduceLT, Nat.reduceEqDiff, Int.reduceBEq, Int.reduceBNe, Int.reduceLT, Int.reduceLE, Int.reduceAdd, Int.reduceSub, Int.reduceMul]
        have hk' : ¬ k < xs.length := by simpa using h
        rw [hsp, all_true (by rw [hz]; exact hk') hpre]

theorem labelled_ok (xs : List Int) (m : Int) : Ok Try.prog E 34 [.c (nums xs), nv m] (bv (decide ((xs.length : Int) = m) && canonC xs)) := by
  refine ok_of_vc (L := []) (ts := [4]) envOK mixed Try.func34 rfl (by kernel_rfl) rfl (by kernel_rfl) rfl fun hl => ?_
  have hx := len_of (hl _ (List.mem_cons_self ..))
  rw [List.length_map] at hx
  simp only [Try.f34, bv, nv, num_beq, VL, VB, BEq.rfl, V1, V2, V3, V4, V5, V6, V7, V8, V9, V10, VE, Nat.reduceBEq, Nat.reduceAdd, Nat.reduceSub, Nat.reduceMul, Nat.reduceLeDiff, Nat.reduceLT, Nat.reduceEqDiff, Int.reduceBEq, Int.reduceBNe, Int.reduceLT, Int.reduceLE, Int.reduceAdd, Int.reduceSub, Int.reduceMul]
  refine guardB.mk (fun h => ?_) (fun h => ?_)
  · simp only [VL, VB, BEq.rfl, V1, V2, V3, V4, V5, V6, V7, V8, V9, V10, VE, Nat.reduceBEq, Nat.reduceAdd, Nat.reduceSub, Nat.reduceMul, Nat.reduceLeDiff, Nat.reduceLT, Nat.reduceEqDiff, Int.reduceBEq, Int.reduceBNe, Int.reduceLT, Int.reduceLE, Int.reduceAdd, Int.reduceSub, Int.reduceMul]
    have hne : ¬ (xs.length : Int) = m := by simpa using h
    rw [decide_eq_false hne, Bool.false_and]
  · simp only [VL, VB, BEq.rfl, V1, V2, V3, V4, V5, V6, V7, V8, V9, V10, VE, Nat.reduceBEq, Nat.reduceAdd, Nat.reduceSub, Nat.reduceMul, Nat.reduceLeDiff, Nat.reduceLT, Nat.reduceEqDiff, Int.reduceBEq, Int.reduceBNe, Int.reduceLT, Int.reduceLE, Int.reduceAdd, Int.reduceSub, Int.reduceMul]
    have hm : (xs.length : Int) = m := by simpa using h
    subst hm
    simp only [decide_true]
    refine LoopVC.mk (Y := Nat) (fun k => k ≤ xs.length ∧ ∀ i < k, ∀ x, (List.range xs.length)[i]? = some x → canonAt xs x = true) (fun k => ⟨[(0, .c (nums xs)), (1, .c (.sc (.int .i64 xs.length))), (5, .c (.sc (.int .i64 k)))], []⟩) (fun k => xs.length - k) ⟨0, Enter.id ?_, by omega, by omega⟩ ?_
    · simp only [VL, VB, BEq.rfl, V1, V2, V3, V4, V5, V6, V7, V8, V9, V10, VE, Nat.reduceBEq, Nat.reduceAdd, Nat.reduceSub, Nat.reduceMul, Nat.reduceLeDiff, Nat.reduceLT, Nat.reduceEqDiff, Int.reduceBEq, Int.reduceBNe, Int.reduceLT, Int.reduceLE, Int.reduceAdd, Int.reduceSub, Int.reduceMul]
      rfl
    rintro k ⟨hk, hpre⟩
    simp only [VL, VB, BEq.rfl, V1, V2, V3, V4, V5, V6, V7, V8, V9, V10, VE, Nat.reduceBEq, Nat.reduceAdd, Nat.reduceSub, Nat.reduceMul, Nat.reduceLeDiff, Nat.reduceLT, Nat.reduceEqDiff, Int.reduceBEq, Int.reduceBNe, Int.reduceLT, Int.reduceLE, Int.reduceAdd, Int.reduceSub, Int.reduceMul]
    refine guardB.mk (fun h => ?_) (fun h => ?_)
    · have hk' : k < xs.length := by simpa using h
      obtain ⟨c, hc⟩ : ∃ c, xs.getD k 0 = c := ⟨_, rfl⟩
      have hwrap : IntKind.i64.wrap ((k : Int) + 1) = ((k + 1 : Nat) : Int) := by rw [wrap_of (by omega) (by omega)]; rfl
      have hno : canonAt xs k = false → D.sc (Value.bool false) = D.sc (Value.bool (true && canonC xs)) := fun hf => by rw [Bool.true_and, canonC, all_false (k := k) (z := 0) (by rw [List.length_range]; omega) (by rw [range_getD hk', hf])]
      have hyes : canonAt xs k = true → (∀ i < k + 1, ∀ x, (List.range xs.length)[i]? = some x → canonAt xs x = true) := fun hf => all_next (z := 0) (by rw [List.length_range]; omega) hpre (by rw [range_getD hk', hf])
      have hat : canonAt xs k = (!decide (c < 0) && (!decide ((k : Int) < c) && decide (xs.getD c.toNat 0 = c))) := by rw [canonAt, hc]
      simp only [getD_num, hk', hc, hwrap, num_def, num_beq, VL, VB, BEq.rfl, V1, V2, V3, V4, V5, V6, V7, V8, V9, V10, VE, Nat.reduceBEq, Nat.reduceAdd, Nat.reduceSub, Nat.reduceMul, Nat.reduceLeDiff, Nat.reduceLT, Nat.reduceEqDiff, Int.reduceBEq, Int.reduceBNe, Int.reduceLT, Int.reduceLE, Int.reduceAdd, Int.reduceSub, Int.reduceMul]
      refine ⟨Int.natCast_nonneg k, ?_⟩
      refine guardB.mk (fun h2 => ?_) (fun h2 => ?_) <;> simp only [h2, getD_num, hk', hc, hwrap, num_def, num_beq, VL, VB, BEq.rfl, V1, V2, V3, V4, V5, V6, V7, V8, V9, V10, VE, Nat.reduceBEq, Nat.reduceAdd, Nat.reduceSub, Nat.reduceMul, Nat.reduceLeDiff, Nat.reduceLT, Nat.reduceEqDiff, Int.reduceBEq, Int.reduceBNe, Int.reduceLT, Int.reduceLE, Int.reduceAdd, Int.reduceSub, Int.reduceMul]
      · exact hno (by rw [hat, h2]; rfl)
      · refine ⟨Int.natCast_nonneg k, ?_⟩
        refine guardB.mk (fun h3 => ?_) (fun h3 => ?_) <;> simp only [h3, getD_num, hk', hc, hwrap, num_def, num_beq, VL, VB, BEq.rfl, V1, V2, V3, V4, V5, V6, V7, V8, V9, V10, VE, Nat.reduceBEq, Nat.reduceAdd, Nat.reduceSub, Nat.reduceMul, Nat.reduceLeDiff, Nat.reduceLT, Nat.reduceEqDiff, Int.reduceBEq, Int.reduceBNe, Int.reduceLT, Int.reduceLE, Int.reduceAdd, Int.reduceSub, Int.reduceMul]
        · exact hno (by rw [hat, h2, h3]; rfl)
        · have hcl : c.toNat < xs.length := by
            have h2' : ¬ c < 0 := by simpa using h2
            have h3' : ¬ (k : Int) < c := by simpa using h3
            omega
          have hc0 : 0 ≤ c := by
            have h2' : ¬ c < 0 := by simpa using h2
            omega
          simp only [hcl, getD_num, hk', hc, hwrap, num_def, num_beq, VL, VB, BEq.rfl, V1, V2, V3, V4, V5, V6, V7, V8, V9, V10, VE, Nat.reduceBEq, Nat.reduceAdd, Nat.reduceSub, Nat.reduceMul, Nat.reduceLeDiff, Nat.reduceLT, Nat.reduceEqDiff, Int.reduceBEq, Int.reduceBNe, Int.reduceLT, Int.reduceLE, Int.reduceAdd, Int.reduceSub, Int.reduceMul]
          refine ⟨Int.natCast_nonneg k, hc0, Int.natCast_nonneg k, guardB.mk (fun h4 => ?_) (fun h4 => ?_)⟩ <;> simp only [h4, getD_num, hk', hc, hwrap, num_def, num_beq, VL, VB, BEq.rfl, V1, V2, V3, V4, V5, V6, V7, V8, V9, V10, VE, Nat.reduceBEq, Nat.reduceAdd, Nat.reduceSub, Nat.reduceMul, Nat.reduceLeDiff, Nat.reduceLT, Nat.reduceEqDiff, Int.reduceBEq, Int.reduceBNe, Int.reduceLT, Int.reduceLE, Int.reduceAdd, Int.reduceSub, Int.reduceMul]
          · exact hno (by rw [hat, h2, h3]; simpa using h4)
          · refine ⟨k + 1, Enter.id ?_, ⟨by omega, hyes (by rw [hat, h2, h3]; simpa using h4)⟩, by show xs.length - (k + 1) < xs.length - k; omega⟩
            simp only [getD_num, hk', hc, hwrap, num_def, num_beq, VL, VB, BEq.rfl, V1, V2, V3, V4, V5, V6, V7, V8, V9, V10, VE, Nat.reduceBEq, Nat.reduceAdd, Nat.reduceSub, Nat.reduceMul, Nat.reduceLeDiff, Nat.reduceLT, Nat.reduceEqDiff, Int.reduceBEq, Int.reduceBNe, Int.reduceLT, Int.reduceLE, Int.reduceAdd, Int.reduceSub, Int.reduceMul]
    · simp only [VL, VB, BEq.rfl, V1, V2, V3, V4, V5, V6, V7, V8, V9, V10, VE, Nat.reduceBEq, Nat.reduceAdd, Nat.reduceSub, Nat.reduceMul, Nat.reduceLeDiff, Nat.reduceLT, Nat.reduceEqDiff, Int.reduceBEq, Int.reduceBNe, Int.reduceLT, Int.reduceLE, Int.reduceAdd, Int.reduceSub, Int.reduceMul]
      have hk' : ¬ k < xs.length := by simpa using h
      rw [canonC, all_true (by rw [List.length_range]; exact hk') hpre]

end Go.Cp
end

section
set_option linter.unusedVariables false
set_option linter.unusedSimpArgs false
set_option maxHeartbeats 4000000
set_option maxRecDepth 10000
namespace Go.Cp
open Go Go.Proofs Go.Vx

def clash (l : List Corr) (labels : List Int) (i j : Nat) : Bool := decide (labels.getD i 0 = labels.getD j 0) && !fitR (cellsAt l i) (cellsAt l j)
def rowOK (l : List Corr) (labels : List Int) (i : Nat) : Bool := (List.range i).all fun j => !clash l labels i j
def allowedR (l : List Corr) (labels : List Int) : Bool := (List.range labels.length).all (rowOK l labels)

theorem allowed_ok (l : List Corr) (labels : List Int) (m : Nat) (hle : labels.length ≤ l.length) (hm : ∀ c ∈ l, c.cells.length = m) : Ok Try.prog E 51 [.c (corrs l), .c (nums labels)] (bv (allowedR l labels)) := by
  refine ok_of_vc (L := []) (ts := [4]) envOK mixed Try.func51 rfl (by kernel_rfl) rfl (by kernel_rfl) rfl fun hl => ?_
  have hx := len_of (hl _ (List.mem_cons_self ..))
  rw [List.length_map] at hx
  have hcm : ∀ i, i < l.length → (cellsAt l i).length = m := fun i hi => hm _ (by rw [List.getD, List.getElem?_eq_getElem hi, Option.getD_some]; exact List.getElem_mem hi)
  simp only [Try.f51, bv, VL, VB, BEq.rfl, V1, V2, V3, V4, V5, V6, V7, V8, V9, V10, VE, Nat.reduceBEq, Nat.reduceAdd, Nat.reduceSub, Nat.reduceMul, Nat.reduceLeDiff, Nat.reduceLT, Nat.reduceEqDiff, Int.reduceBEq, Int.reduceBNe, Int.reduceLT, Int.reduceLE, Int.reduceAdd, Int.reduceSub, Int.reduceMul]
  refine LoopVC.mk (Y := Nat) (fun k => k ≤ labels.length ∧ ∀ i < k, ∀ x, (List.range labels.length)[i]? = some x → rowOK l labels x = true) (fun k => ⟨[(0, .c (corrs l)), (1, .c (nums labels)), (5, .c (.sc (.int .i64 k)))], []⟩) (fun k => labels.length - k) ⟨0, Enter.id ?_, by omega, by omega⟩ ?_
  · simp only [VL, VB, BEq.rfl, V1, V2, V3, V4, V5, V6, V7, V8, V9, V10, VE, Nat.reduceBEq, Nat.reduceAdd, Nat.reduceSub, Nat.reduceMul, Nat.reduceLeDiff, Nat.reduceLT, Nat.reduceEqDiff, Int.reduceBEq, Int.reduceBNe, Int.reduceLT, Int.reduceLE, Int.reduceAdd, Int.reduceSub, Int.reduceMul]
    rfl
  rintro k ⟨hk, hpre⟩
  simp only [VL, VB, BEq.rfl, V1, V2, V3, V4, V5, V6, V7, V8, V9, V10, VE, Nat.reduceBEq, Nat.reduceAdd, Nat.reduceSub, Nat.reduceMul, Nat.reduceLeDiff, Nat.reduceLT, Nat.reduceEqDiff, Int.reduceBEq, Int.reduceBNe, Int.reduceLT, Int.reduceLE, Int.reduceAdd, Int.reduceSub, Int.reduceMul]
  refine guardB.mk (fun h => ?_) (fun h => ?_)
  · have hk' : k < labels.length := by simpa using h
    have hkl : k < l.length := by omega
    have hwrap : IntKind.i64.wrap ((k : Int) + 1) = ((k + 1 : Nat) : Int) := by rw [wrap_of (by omega) (by omega)]; rfl
    simp only [VL, VB, BEq.rfl, V1, V2, V3, V4, V5, V6, V7, V8, V9, V10, VE, Nat.reduceBEq, Nat.reduceAdd, Nat.reduceSub, Nat.reduceMul, Nat.reduceLeDiff, Nat.reduceLT, Nat.reduceEqDiff, Int.reduceBEq, Int.reduceBNe, Int.reduceLT, Int.reduceLE, Int.reduceAdd, Int.reduceSub, Int.reduceMul]
    refine LoopVC.mk (Y := Nat) (fun j => j ≤ k ∧ ∀ i < j, ∀ x, (List.range k)[i]? = some x → (!clash l labels k x) = true) (fun j => ⟨[(0, .c (corrs l)), (1, .c (nums labels)), (5, .c (.sc (.int .i64 k))), (6, .c (.sc (.int .i64 j)))], []⟩) (fun j => k - j) ⟨0, Enter.id ?_, by omega, by omega⟩ ?_
    · simp only [VL, VB, BEq.rfl, V1, V2, V3, V4, V5, V6, V7, V8, V9, V10, VE, Nat.reduceBEq, Nat.reduceAdd, Nat.reduceSub, Nat.reduceMul, Nat.reduceLeDiff, Nat.reduceLT, Nat.reduceEqDiff, Int.reduceBEq, Int.reduceBNe, Int.reduceLT, Int.reduceLE, Int.reduceAdd, Int.reduceSub, Int.reduceMul]
      rfl
    rintro j ⟨hj, hpj⟩
    simp only [VL, VB, BEq.rfl, V1, V2, V3, V4, V5, V6, V7, V8, V9, V10, VE, Nat.reduceBEq, Nat.reduceAdd, Nat.reduceSub, Nat.reduceMul, Nat.reduceLeDiff, Nat.reduceLT, Nat.reduceEqDiff, Int.reduceBEq, Int.reduceBNe, Int.reduceLT, Int.reduceLE, Int.reduceAdd, Int.reduceSub, Int.reduceMul]
    refine guardB.mk (fun h => ?_) (fun h => ?_)
    · have hj' : j < k := by simpa using h
      have hjn : j < labels.length := by omega
      have hjl : j < l.length := by omega
      obtain ⟨x, hxk⟩ : ∃ x, labels.getD k 0 = x := ⟨_, rfl⟩
      obtain ⟨y, hyj⟩ : ∃ y, labels.getD j 0 = y := ⟨_, rfl⟩
      obtain ⟨c, hc⟩ : ∃ c, l.getD k Corr.zero = c := ⟨_, rfl⟩
      obtain ⟨d, hd⟩ : ∃ d, l.getD j Corr.zero = d := ⟨_, rfl⟩
      have hwj : IntKind.i64.wrap ((j : Int) + 1) = ((j + 1 : Nat) : Int) := by rw [wrap_of (by omega) (by omega)]; rfl
      have hcl : clash l labels k j = (decide (x = y) && !fitR c.cells d.cells) := by rw [clash, cellsAt, cellsAt, hxk, hyj, hc, hd]
      have hlen : c.cells.length ≤ d.cells.length := by
        have h1 := hcm k hkl
        have h2 := hcm j hjl
        rw [cellsAt, hc] at h1
        rw [cellsAt, hd] at h2
        omega
      have hno : clash l labels k j = true → D.sc (Value.bool false) = D.sc (Value.bool (allowedR l labels)) := fun hf => by
        have hr : rowOK l labels k = false := all_false (k := j) (z := 0) (by rw [List.length_range]; omega) (by rw [range_getD hj', hf]; rfl)
        rw [allowedR, all_false (k := k) (z := 0) (by rw [List.length_range]; omega) (by rw [range_getD hk', hr])]
      have hyes : clash l labels k j = false → ∀ i < j + 1, ∀ x, (List.range k)[i]? = some x → (!clash l labels k x) = true := fun hf => all_next (z := 0) (by rw [List.length_range]; omega) hpj (by rw [range_getD hj', hf]; rfl)
      simp only [getD_num, getD_corr, hk', hkl, hjn, hjl, hxk, hyj, hc, hd, hwj, num_def, corr_def, int_beq, VL, VB, BEq.rfl, V1, V2, V3, V4, V5, V6, V7, V8, V9, V10, VE, Nat.reduceBEq, Nat.reduceAdd, Nat.reduceSub, Nat.reduceMul, Nat.reduceLeDiff, Nat.reduceLT, Nat.reduceEqDiff, Int.reduceBEq, Int.reduceBNe, Int.reduceLT, Int.reduceLE, Int.reduceAdd, Int.reduceSub, Int.reduceMul]
      refine ⟨Int.natCast_nonneg k, Int.natCast_nonneg j, guardB.mk (fun h2 => ?_) (fun h2 => ?_)⟩ <;> simp only [h2, getD_num, getD_corr, hk', hkl, hjn, hjl, hxk, hyj, hc, hd, hwj, num_def, corr_def, int_beq, VL, VB, BEq.rfl, V1, V2, V3, V4, V5, V6, V7, V8, V9, V10, VE, Nat.reduceBEq, Nat.reduceAdd, Nat.reduceSub, Nat.reduceMul, Nat.reduceLeDiff, Nat.reduceLT, Nat.reduceEqDiff, Int.reduceBEq, Int.reduceBNe, Int.reduceLT, Int.reduceLE, Int.reduceAdd, Int.reduceSub, Int.reduceMul]
      · refine ⟨Int.natCast_nonneg k, Int.natCast_nonneg j, ?_⟩
        refine CallX.mk (rfit_ok c.cells d.cells hlen) rfl ?_
        simp only [getD_num, getD_corr, hk', hkl, hjn, hjl, hxk, hyj, hc, hd, hwj, num_def, corr_def, int_beq, VL, VB, BEq.rfl, V1, V2, V3, V4, V5, V6, V7, V8, V9, V10, VE, Nat.reduceBEq, Nat.reduceAdd, Nat.reduceSub, Nat.reduceMul, Nat.reduceLeDiff, Nat.reduceLT, Nat.reduceEqDiff, Int.reduceBEq, Int.reduceBNe, Int.reduceLT, Int.reduceLE, Int.reduceAdd, Int.reduceSub, Int.reduceMul]
        refine guardB.mk (fun h3 => ?_) (fun h3 => ?_) <;> simp only [h3, getD_num, getD_corr, hk', hkl, hjn, hjl, hxk, hyj, hc, hd, hwj, num_def, corr_def, int_beq, VL, VB, BEq.rfl, V1, V2, V3, V4, V5, V6, V7, V8, V9, V10, VE, Nat.reduceBEq, Nat.reduceAdd, Nat.reduceSub, Nat.reduceMul, Nat.reduceLeDiff, Nat.reduceLT, Nat.reduceEqDiff, Int.reduceBEq, Int.reduceBNe, Int.reduceLT, Int.reduceLE, Int.reduceAdd, Int.reduceSub, Int.reduceMul]
        · exact hno (by rw [hcl, h2, h3]; rfl)
        · refine ⟨j + 1, Enter.id (by simp only [VL, VB, BEq.rfl, V1, V2, V3, V4, V5, V6, V7, V8, V9, V10, VE, Nat.reduceBEq, Nat.reduceAdd, Nat.reduceSub, Nat.reduceMul, Nat.reduceLeDiff, Nat.reduceLT, Nat.reduceEqDiff, Int.reduceBEq, Int.reduceBNe, Int.reduceLT, Int.reduceLE, Int.reduceAdd, Int.reduceSub, Int.reduceMul]), ⟨by omega, hyes (by rw [hcl, h2, h3]; rfl)⟩, by show k - (j + 1) < k - j; omega⟩
      · refine ⟨j + 1, Enter.id (by simp only [VL, VB, BEq.rfl, V1, V2, V3, V4, V5, V6, V7, V8, V9, V10, VE, Nat.reduceBEq, Nat.reduceAdd, Nat.reduceSub, Nat.reduceMul, Nat.reduceLeDiff, Nat.reduceLT, Nat.reduceEqDiff, Int.reduceBEq, Int.reduceBNe, Int.reduceLT, Int.reduceLE, Int.reduceAdd, Int.reduceSub, Int.reduceMul]), ⟨by omega, hyes (by rw [hcl, h2]; rfl)⟩, by show k - (j + 1) < k - j; omega⟩
    · simp only [hwrap, VL, VB, BEq.rfl, V1, V2, V3, V4, V5, V6, V7, V8, V9, V10, VE, Nat.reduceBEq, Nat.reduceAdd, Nat.reduceSub, Nat.reduceMul, Nat.reduceLeDiff, Nat.reduceLT, Nat.reduceEqDiff, Int.reduceBEq, Int.reduceBNe, Int.reduceLT, Int.reduceLE, Int.reduceAdd, Int.reduceSub, Int.reduceMul]
      have hj' : ¬ j < k := by simpa using h
      have hr : rowOK l labels k = true := all_true (by rw [List.length_range]; exact hj') hpj
      refine ⟨k + 1, Enter.id (by simp only [VL, VB, BEq.rfl, V1, V2, V3, V4, V5, V6, V7, V8, V9, V10, VE, Nat.reduceBEq, Nat.reduceAdd, Nat.reduceSub, Nat.reduceMul, Nat.reduceLeDiff, Nat.reduceLT, Nat.reduceEqDiff, Int.reduceBEq, Int.reduceBNe, Int.reduceLT, Int.reduceLE, Int.reduceAdd, Int.reduceSub, Int.reduceMul]), ⟨by omega, all_next (z := 0) (by rw [List.length_range]; omega) hpre (by rw [range_getD hk', hr])⟩, by show labels.length - (k + 1) < labels.length - k; omega⟩
  · simp only [VL, VB, BEq.rfl, V1, V2, V3, V4, V5, V6, V7, V8, V9, V10, VE, Nat.reduceBEq, Nat.reduceAdd, Nat.reduceSub, Nat.reduceMul, Nat.reduceLeDiff, Nat.reduceLT, Nat.reduceEqDiff, Int.reduceBEq, Int.reduceBNe, Int.reduceLT, Int.reduceLE, Int.reduceAdd, Int.reduceSub, Int.reduceMul]
    have hk' : ¬ k < labels.length := by simpa using h
    rw [allowedR, all_true (by rw [List.length_range]; exact hk') hpre]

end Go.Cp
end

section
set_option linter.unusedVariables false
set_option linter.unusedSimpArgs false
set_option maxHeartbeats 4000000
set_option maxRecDepth 10000
namespace Go.Cp
open Go Go.Proofs Go.Vx

/-- the first number from k on, of at most n, that has p -/
def scan (p : Nat → Bool) : Nat → Nat → Nat
  | 0, k => k
  | n + 1, k => cond (p k) k (scan p n (k + 1))
theorem scan_le (p : Nat → Bool) : ∀ n k, k ≤ scan p n k ∧ scan p n k ≤ k + n
  | 0, k => ⟨Nat.le_refl _, Nat.le_refl _⟩
  | n + 1, k => by
    have := scan_le p n (k + 1)
    unfold scan
    cases p k <;> simp only [cond_true, cond_false] <;> omega
theorem scan_hit (p : Nat → Bool) {n k : Nat} (h : p k = true) : scan p n k = k := by
  cases n with
  | zero => rfl
  | succ n => rw [scan, h]; rfl
theorem scan_miss (p : Nat → Bool) {i k : Nat} (hk : k < i) (h : p k = false) : scan p (i - k) k = scan p (i - (k + 1)) (k + 1) := by
  rw [show i - k = (i - (k + 1)) + 1 by omega, scan, h]; rfl
theorem scan_end (p : Nat → Bool) {i k : Nat} (hk : ¬ k < i) : scan p (i - k) k = k := by
  rw [show i - k = 0 by omega]; rfl
theorem wrap_nat {k : Nat} (h : k + 1 ≤ 9223372036854775807) : IntKind.i64.wrap ((k : Int) + 1) = ((k + 1 : Nat) : Int) := by rw [wrap_of (by omega) (by omega)]; rfl

def rowD (j : List Cell) : List D := [.sl (j.map Cell.enc)]
theorem row_def (j : List Cell) : rowD j = [.sl (j.map Cell.enc)] := rfl
theorem getD_row (js : List (List Cell)) (k : Nat) (h : k < js.length) : (js.map rowD).getD k [] = rowD (js.getD k []) := by
  simp [List.getD, List.getElem?_map, List.getElem?_eq_getElem h]
theorem rep_num (n : Nat) : List.replicate n [D.sc (.int .i64 0)] = (List.replicate n (0 : Int)).map num := by rw [List.map_replicate]; rfl
theorem rep_row (n : Nat) : List.replicate n [D.sl []] = (List.replicate n ([] : List Cell)).map rowD := by rw [List.map_replicate]; rfl
theorem lt_nat {a b : Nat} : decide ((a : Int) < (b : Int)) = decide (a < b) := gt_nat

def holds (labels : List Int) (joins : List (List Cell)) (x : List Cell) (k : Nat) : Bool := decide (labels.getD k 0 = (k : Int)) && fitC (joins.getD k []) x
abbrev GSt := List Int × List (List Cell)
def greedyK (st : GSt) (x : List Cell) (i : Nat) : Nat := scan (holds st.1 st.2 x) i 0
def greedyStep (l : List Corr) (st : GSt) (i : Nat) : GSt :=
  (st.1.set i (greedyK st (cellsAt l i) i), st.2.set (greedyK st (cellsAt l i) i) (if greedyK st (cellsAt l i) i < i then joinC (st.2.getD (greedyK st (cellsAt l i) i) []) (cellsAt l i) else cellsAt l i))
def greedyAt (l : List Corr) (k : Nat) : GSt := (List.range k).foldl (greedyStep l) (List.replicate l.length 0, List.replicate l.length [])
theorem greedyAt_succ (l : List Corr) (k : Nat) : greedyAt l (k + 1) = greedyStep l (greedyAt l k) k := by
  simp only [greedyAt, List.range_succ, List.foldl_append, List.foldl_cons, List.foldl_nil]
theorem greedyAt_len (l : List Corr) : ∀ k, (greedyAt l k).1.length = l.length ∧ (greedyAt l k).2.length = l.length
  | 0 => by simp [greedyAt]
  | k + 1 => by
    have := greedyAt_len l k
    rw [greedyAt_succ]
    simpa [greedyStep] using this
theorem getD_set {α : Type} (xs : List α) (i j : Nat) (x z : α) : (xs.set i x).getD j z = if i = j ∧ i < xs.length then x else xs.getD j z := by
  simp only [List.getD, List.getElem?_set]
  by_cases h : i = j
  · subst h
    by_cases h' : i < xs.length
    · simp [h']
    · simp [h', List.getElem?_eq_none (Nat.le_of_not_lt h')]
  · simp [h]
theorem joinC_len_le (xs ys : List Cell) : (joinC xs ys).length ≤ xs.length := by
  simp only [joinC, List.length_zipWith]; omega
theorem greedyAt_cells {l : List Corr} {m : Nat} (hm : ∀ c ∈ l, c.cells.length = m) : ∀ k, k ≤ l.length → ∀ j, ((greedyAt l k).2.getD j []).length ≤ m
  | 0, _, j => by
    simp only [greedyAt, List.range_zero, List.foldl_nil]
    by_cases h : j < l.length
    · simp [List.getD, h]
    · simp [List.getD, h]
  | k + 1, hk, j => by
    have ih := greedyAt_cells hm k (by omega)
    rw [greedyAt_succ]
    simp only [greedyStep, getD_set]
    have hx : (cellsAt l k).length = m := by
      rw [cellsAt]
      exact hm _ (by rw [List.getD, List.getElem?_eq_getElem (show k < l.length by omega), Option.getD_some]; exact List.getElem_mem _)
    split
    · split
      · exact Nat.le_trans (joinC_len_le _ _) (ih _)
      · omega
    · exact ih j

theorem check_len {l : List Corr} {n : Nat} (h : checkC l n = 0) : l.length ≤ n := by
  unfold checkC at h
  split at h
  · cases h
  · omega
theorem check_list {l : List Corr} {n : Nat} (h : checkC l n = 0) : listC l = true := by
  unfold checkC at h
  split at h
  · cases h
  · split at h
    · assumption
    · cases h
theorem list_lens {l : List Corr} (h : listC l = true) : ∀ c ∈ l, c.cells.length = headLen l := fun c hc => by
  have := List.all_eq_true.1 h c hc
  simp only [corrB, Bool.and_eq_true, decide_eq_true_eq] at this
  exact this.2.2.2
theorem getD_mem {α : Type} {xs : List α} {k : Nat} {z : α} (h : k < xs.length) : xs.getD k z ∈ xs := by
  rw [List.getD, List.getElem?_eq_getElem h, Option.getD_some]; exact List.getElem_mem h

theorem greedy_ok (l : List Corr) (hb : ∀ c ∈ l, c.cells.length * 16 ≤ 140737488355328) : Ok Try.prog E 22 [.c (corrs l)] (.tp [.fr 3 (if checkC l 256 = 0 then (greedyAt l l.length).1.map num else []), nv (checkC l 256)]) := by
  refine ok_of_vc (L := []) (ts := [2, 3]) envOK mixed Try.func22 rfl (by kernel_rfl) rfl (by kernel_rfl) rfl fun hl => ?_
  simp only [Try.f22, nv, VL, VB, BEq.rfl, V1, V2, V3, V4, V5, V6, V7, V8, V9, V10, VE, Nat.reduceBEq, Nat.reduceAdd, Nat.reduceSub, Nat.reduceMul, Nat.reduceLeDiff, Nat.reduceLT, Nat.reduceEqDiff, Int.reduceBEq, Int.reduceBNe, Int.reduceLT, Int.reduceLE, Int.reduceAdd, Int.reduceSub, Int.reduceMul]
  refine CallX.mk (check_ok l 256) rfl ?_
  simp only [nv, VL, VB, BEq.rfl, V1, V2, V3, V4, V5, V6, V7, V8, V9, V10, VE, Nat.reduceBEq, Nat.reduceAdd, Nat.reduceSub, Nat.reduceMul, Nat.reduceLeDiff, Nat.reduceLT, Nat.reduceEqDiff, Int.reduceBEq, Int.reduceBNe, Int.reduceLT, Int.reduceLE, Int.reduceAdd, Int.reduceSub, Int.reduceMul]
  refine guardB.mk (fun h => ?_) (fun h => ?_)
  · have h0 : ¬ checkC l 256 = 0 := by simpa using h
    simp only [h0, if_false, Option.isSome_some, VL, VB, BEq.rfl, V1, V2, V3, V4, V5, V6, V7, V8, V9, V10, VE, Nat.reduceBEq, Nat.reduceAdd, Nat.reduceSub, Nat.reduceMul, Nat.reduceLeDiff, Nat.reduceLT, Nat.reduceEqDiff, Int.reduceBEq, Int.reduceBNe, Int.reduceLT, Int.reduceLE, Int.reduceAdd, Int.reduceSub, Int.reduceMul]
  · have h0 : checkC l 256 = 0 := by simpa using h
    have hn : l.length ≤ 256 := check_len (n := 256) h0
    have hm := list_lens (check_list (n := 256) h0)
    simp only [h0, if_true, rep_num, rep_row, VL, VB, BEq.rfl, V1, V2, V3, V4, V5, V6, V7, V8, V9, V10, VE, Nat.reduceBEq, Nat.reduceAdd, Nat.reduceSub, Nat.reduceMul, Nat.reduceLeDiff, Nat.reduceLT, Nat.reduceEqDiff, Int.reduceBEq, Int.reduceBNe, Int.reduceLT, Int.reduceLE, Int.reduceAdd, Int.reduceSub, Int.reduceMul]
    refine ⟨⟨by omega, by omega⟩, ⟨by omega, by omega⟩, ?_⟩
    refine LoopVC.mk (Y := Nat) (fun i => i ≤ l.length) (fun i => ⟨[(5, .osl 17 0), (6, .osl 20 0), (21, .c (corrs l)), (22, .c (.sc (.int .i64 l.length))), (23, .c (.sc (.int .i64 i)))],
      [(17, .arr 3 0 ((greedyAt l i).1.map num)), (20, .arr 22 0 ((greedyAt l i).2.map rowD))]⟩) (fun i => l.length - i) ⟨0, Enter.id ?_, by omega⟩ ?_
    · simp only [greedyAt, List.range_zero, List.foldl_nil, VL, VB, BEq.rfl, V1, V2, V3, V4, V5, V6, V7, V8, V9, V10, VE, Nat.reduceBEq, Nat.reduceAdd, Nat.reduceSub, Nat.reduceMul, Nat.reduceLeDiff, Nat.reduceLT, Nat.reduceEqDiff, Int.reduceBEq, Int.reduceBNe, Int.reduceLT, Int.reduceLE, Int.reduceAdd, Int.reduceSub, Int.reduceMul]
      rfl
    intro i hi
    obtain ⟨hl1, hl2⟩ := greedyAt_len l i
    have hjm := greedyAt_cells hm i hi
    have hs := greedyAt_succ l i
    generalize hst : greedyAt l i = st at hl1 hl2 hjm hs ⊢
    obtain ⟨ls, js⟩ := st
    simp only at hl1 hl2 hjm
    simp only [lt_nat, VL, VB, BEq.rfl, V1, V2, V3, V4, V5, V6, V7, V8, V9, V10, VE, Nat.reduceBEq, Nat.reduceAdd, Nat.reduceSub, Nat.reduceMul, Nat.reduceLeDiff, Nat.reduceLT, Nat.reduceEqDiff, Int.reduceBEq, Int.reduceBNe, Int.reduceLT, Int.reduceLE, Int.reduceAdd, Int.reduceSub, Int.reduceMul]
    refine guardB.mk (fun h => ?_) (fun h => ?_)
    · have hi' : i < l.length := by simpa using h
      obtain ⟨c, hc⟩ : ∃ c, l.getD i Corr.zero = c := ⟨_, rfl⟩
      have hci : cellsAt l i = c.cells := by rw [cellsAt, hc]
      have hcm : c ∈ l := by rw [← hc]; exact getD_mem hi'
      have hcl := hm c hcm
      simp only [greedyStep, hci, greedyK] at hs
      simp only [getD_corr, hi', hc, corr_def, VL, VB, BEq.rfl, V1, V2, V3, V4, V5, V6, V7, V8, V9, V10, VE, Nat.reduceBEq, Nat.reduceAdd, Nat.reduceSub, Nat.reduceMul, Nat.reduceLeDiff, Nat.reduceLT, Nat.reduceEqDiff, Int.reduceBEq, Int.reduceBNe, Int.reduceLT, Int.reduceLE, Int.reduceAdd, Int.reduceSub, Int.reduceMul]
      refine ⟨Int.natCast_nonneg i, ?_⟩
      obtain ⟨K, hK⟩ : ∃ K, scan (holds ls js c.cells) i 0 = K := ⟨_, rfl⟩
      rw [hK] at hs
      have hKi : K ≤ i := by
        have := (scan_le (holds ls js c.cells) i 0).2
        omega
      refine LoopVC.cut (Y := Nat) (Z := Unit) 2 (fun k => k ≤ i ∧ scan (holds ls js c.cells) (i - k) k = K) (fun k => ⟨[(5, .osl 17 0), (6, .osl 20 0), (7, .c (.sc (.int .i64 i))), (8, .bp 8 0), (9, .c (.sc (.int .i64 k))), (21, .c (corrs l)), (22, .c (.sc (.int .i64 l.length))), (23, .c (.sc (.int .i64 i)))],
        [(17, .arr 3 0 (ls.map num)), (20, .arr 22 0 (js.map rowD)), (8, .cells [.c (cells c.cells), .c (.sc (.int .i64 c.count))])]⟩) (fun k => i - k) (fun _ => True) (fun _ => ⟨[(5, .osl 17 0), (6, .osl 20 0), (7, .c (.sc (.int .i64 i))), (8, .bp 8 0), (9, .c (.sc (.int .i64 K))), (21, .c (corrs l)), (22, .c (.sc (.int .i64 l.length))), (23, .c (.sc (.int .i64 i)))],
        [(17, .arr 3 0 (ls.map num)), (20, .arr 22 0 (js.map rowD)), (8, .cells [.c (cells c.cells), .c (.sc (.int .i64 c.count))])]⟩) ⟨0, Enter.id ?_, by omega, hK⟩ ?_ ?_
      · simp only [getD_corr, hi', hc, corr_def, VL, VB, BEq.rfl, V1, V2, V3, V4, V5, V6, V7, V8, V9, V10, VE, Nat.reduceBEq, Nat.reduceAdd, Nat.reduceSub, Nat.reduceMul, Nat.reduceLeDiff, Nat.reduceLT, Nat.reduceEqDiff, Int.reduceBEq, Int.reduceBNe, Int.reduceLT, Int.reduceLE, Int.reduceAdd, Int.reduceSub, Int.reduceMul]
        rfl
      · rintro k ⟨hk, hsc⟩
        simp only [lt_nat, VL, VB, BEq.rfl, V1, V2, V3, V4, V5, V6, V7, V8, V9, V10, VE, Nat.reduceBEq, Nat.reduceAdd, Nat.reduceSub, Nat.reduceMul, Nat.reduceLeDiff, Nat.reduceLT, Nat.reduceEqDiff, Int.reduceBEq, Int.reduceBNe, Int.reduceLT, Int.reduceLE, Int.reduceAdd, Int.reduceSub, Int.reduceMul]
        refine guardB.mk (fun h2 => ?_) (fun h2 => ?_) <;> simp only [h2, VL, VB, BEq.rfl, V1, V2, V3, V4, V5, V6, V7, V8, V9, V10, VE, Nat.reduceBEq, Nat.reduceAdd, Nat.reduceSub, Nat.reduceMul, Nat.reduceLeDiff, Nat.reduceLT, Nat.reduceEqDiff, Int.reduceBEq, Int.reduceBNe, Int.reduceLT, Int.reduceLE, Int.reduceAdd, Int.reduceSub, Int.reduceMul]
        · have hki : k < i := by simpa using h2
          have e1 : k < ls.length := by omega
          have e2 : k < js.length := by omega
          have hw := wrap_nat (k := k) (by omega)
          simp only [getD_num, getD_row, e1, e2, num_def, row_def, num_beq, hw, VL, VB, BEq.rfl, V1, V2, V3, V4, V5, V6, V7, V8, V9, V10, VE, Nat.reduceBEq, Nat.reduceAdd, Nat.reduceSub, Nat.reduceMul, Nat.reduceLeDiff, Nat.reduceLT, Nat.reduceEqDiff, Int.reduceBEq, Int.reduceBNe, Int.reduceLT, Int.reduceLE, Int.reduceAdd, Int.reduceSub, Int.reduceMul]
          refine ⟨Int.natCast_nonneg k, guardB.mk (fun h3 => ?_) (fun h3 => ?_)⟩ <;> simp only [h3, getD_num, getD_row, e1, e2, num_def, row_def, num_beq, hw, VL, VB, BEq.rfl, V1, V2, V3, V4, V5, V6, V7, V8, V9, V10, VE, Nat.reduceBEq, Nat.reduceAdd, Nat.reduceSub, Nat.reduceMul, Nat.reduceLeDiff, Nat.reduceLT, Nat.reduceEqDiff, Int.reduceBEq, Int.reduceBNe, Int.reduceLT, Int.reduceLE, Int.reduceAdd, Int.reduceSub, Int.reduceMul]
          · have hno : holds ls js c.cells k = false := by
              rw [holds, show decide (ls.getD k 0 = (k : Int)) = false from by simpa using h3]; rfl
            refine ⟨k + 1, Enter.id ?_, ⟨by omega, by rw [← scan_miss _ hki hno, hsc]⟩, by show i - (k + 1) < i - k; omega⟩
            simp only [getD_num, getD_row, e1, e2, num_def, row_def, num_beq, hw, VL, VB, BEq.rfl, V1, V2, V3, V4, V5, V6, V7, V8, V9, V10, VE, Nat.reduceBEq, Nat.reduceAdd, Nat.reduceSub, Nat.reduceMul, Nat.reduceLeDiff, Nat.reduceLT, Nat.reduceEqDiff, Int.reduceBEq, Int.reduceBNe, Int.reduceLT, Int.reduceLE, Int.reduceAdd, Int.reduceSub, Int.reduceMul]
          · refine ⟨Int.natCast_nonneg k, ?_⟩
            refine CallX.mk (fit_ok (js.getD k []) c.cells (by rw [hcl]; exact hjm k)) rfl ?_
            simp only [getD_num, getD_row, e1, e2, num_def, row_def, num_beq, hw, VL, VB, BEq.rfl, V1, V2, V3, V4, V5, V6, V7, V8, V9, V10, VE, Nat.reduceBEq, Nat.reduceAdd, Nat.reduceSub, Nat.reduceMul, Nat.reduceLeDiff, Nat.reduceLT, Nat.reduceEqDiff, Int.reduceBEq, Int.reduceBNe, Int.reduceLT, Int.reduceLE, Int.reduceAdd, Int.reduceSub, Int.reduceMul]
            refine guardB.mk (fun h4 => ?_) (fun h4 => ?_)
            · have hf : fitC (js.getD k []) c.cells = false := by simpa using h4
              have hno : holds ls js c.cells k = false := by rw [holds, hf, Bool.and_false]
              simp only [hf, getD_num, getD_row, e1, e2, num_def, row_def, num_beq, hw, VL, VB, BEq.rfl, V1, V2, V3, V4, V5, V6, V7, V8, V9, V10, VE, Nat.reduceBEq, Nat.reduceAdd, Nat.reduceSub, Nat.reduceMul, Nat.reduceLeDiff, Nat.reduceLT, Nat.reduceEqDiff, Int.reduceBEq, Int.reduceBNe, Int.reduceLT, Int.reduceLE, Int.reduceAdd, Int.reduceSub, Int.reduceMul]
              refine ⟨k + 1, Enter.id ?_, ⟨by omega, by rw [← scan_miss _ hki hno, hsc]⟩, by show i - (k + 1) < i - k; omega⟩
              simp only [getD_num, getD_row, e1, e2, num_def, row_def, num_beq, hw, VL, VB, BEq.rfl, V1, V2, V3, V4, V5, V6, V7, V8, V9, V10, VE, Nat.reduceBEq, Nat.reduceAdd, Nat.reduceSub, Nat.reduceMul, Nat.reduceLeDiff, Nat.reduceLT, Nat.reduceEqDiff, Int.reduceBEq, Int.reduceBNe, Int.reduceLT, Int.reduceLE, Int.reduceAdd, Int.reduceSub, Int.reduceMul]
            · have hf : fitC (js.getD k []) c.cells = true := by simpa using h4
              have hyes : holds ls js c.cells k = true := by
                rw [holds, hf, show decide (ls.getD k 0 = (k : Int)) = true from by simpa using h3]; rfl
              rw [scan_hit _ hyes] at hsc
              subst hsc
              simp only [hf, getD_num, getD_row, e1, e2, num_def, row_def, num_beq, hw, VL, VB, BEq.rfl, V1, V2, V3, V4, V5, V6, V7, V8, V9, V10, VE, Nat.reduceBEq, Nat.reduceAdd, Nat.reduceSub, Nat.reduceMul, Nat.reduceLeDiff, Nat.reduceLT, Nat.reduceEqDiff, Int.reduceBEq, Int.reduceBNe, Int.reduceLT, Int.reduceLE, Int.reduceAdd, Int.reduceSub, Int.reduceMul]
              refine ⟨(), Enter.id ?_, trivial⟩
              simp only [getD_num, getD_row, e1, e2, num_def, row_def, num_beq, hw, VL, VB, BEq.rfl, V1, V2, V3, V4, V5, V6, V7, V8, V9, V10, VE, Nat.reduceBEq, Nat.reduceAdd, Nat.reduceSub, Nat.reduceMul, Nat.reduceLeDiff, Nat.reduceLT, Nat.reduceEqDiff, Int.reduceBEq, Int.reduceBNe, Int.reduceLT, Int.reduceLE, Int.reduceAdd, Int.reduceSub, Int.reduceMul]
        · have hki : ¬ k < i := by simpa using h2
          rw [scan_end _ hki] at hsc
          subst hsc
          refine ⟨(), Enter.id ?_, trivial⟩
          simp only [VL, VB, BEq.rfl, V1, V2, V3, V4, V5, V6, V7, V8, V9, V10, VE, Nat.reduceBEq, Nat.reduceAdd, Nat.reduceSub, Nat.reduceMul, Nat.reduceLeDiff, Nat.reduceLT, Nat.reduceEqDiff, Int.reduceBEq, Int.reduceBNe, Int.reduceLT, Int.reduceLE, Int.reduceAdd, Int.reduceSub, Int.reduceMul]
      · rintro _ _
        have e1 : i < ls.length := by omega
        have e2 : K < js.length := by omega
        have e3 : i < js.length := by omega
        have hw := wrap_nat (k := i) (by omega)
        simp only [getD_num, getD_row, e1, e2, e3, num_def, row_def, num_beq, hw, lt_nat, VL, VB, BEq.rfl, V1, V2, V3, V4, V5, V6, V7, V8, V9, V10, VE, Nat.reduceBEq, Nat.reduceAdd, Nat.reduceSub, Nat.reduceMul, Nat.reduceLeDiff, Nat.reduceLT, Nat.reduceEqDiff, Int.reduceBEq, Int.reduceBNe, Int.reduceLT, Int.reduceLE, Int.reduceAdd, Int.reduceSub, Int.reduceMul]
        refine ⟨Int.natCast_nonneg i, guardB.mk (fun h2 => ?_) (fun h2 => ?_)⟩ <;> simp only [h2, getD_num, getD_row, e1, e2, e3, num_def, row_def, num_beq, hw, lt_nat, VL, VB, BEq.rfl, V1, V2, V3, V4, V5, V6, V7, V8, V9, V10, VE, Nat.reduceBEq, Nat.reduceAdd, Nat.reduceSub, Nat.reduceMul, Nat.reduceLeDiff, Nat.reduceLT, Nat.reduceEqDiff, Int.reduceBEq, Int.reduceBNe, Int.reduceLT, Int.reduceLE, Int.reduceAdd, Int.reduceSub, Int.reduceMul]
        · have hki : K < i := by simpa using h2
          rw [if_pos hki] at hs
          refine ⟨Int.natCast_nonneg K, ?_⟩
          refine CallX.mk (join_ok (js.getD K []) c.cells (by rw [hcl]; exact hjm K) (by have := hb c hcm; have := hjm K; omega)) rfl ?_
          simp only [getD_num, getD_row, e1, e2, e3, num_def, row_def, num_beq, hw, lt_nat, VL, VB, BEq.rfl, V1, V2, V3, V4, V5, V6, V7, V8, V9, V10, VE, Nat.reduceBEq, Nat.reduceAdd, Nat.reduceSub, Nat.reduceMul, Nat.reduceLeDiff, Nat.reduceLT, Nat.reduceEqDiff, Int.reduceBEq, Int.reduceBNe, Int.reduceLT, Int.reduceLE, Int.reduceAdd, Int.reduceSub, Int.reduceMul]
          refine ⟨Int.natCast_nonneg K, i + 1, Enter.id ?_, by omega, by show l.length - (i + 1) < l.length - i; omega⟩
          simp only [hs, List.map_set, getD_num, getD_row, e1, e2, e3, num_def, row_def, num_beq, hw, lt_nat, VL, VB, BEq.rfl, V1, V2, V3, V4, V5, V6, V7, V8, V9, V10, VE, Nat.reduceBEq, Nat.reduceAdd, Nat.reduceSub, Nat.reduceMul, Nat.reduceLeDiff, Nat.reduceLT, Nat.reduceEqDiff, Int.reduceBEq, Int.reduceBNe, Int.reduceLT, Int.reduceLE, Int.reduceAdd, Int.reduceSub, Int.reduceMul]
        · have hki : K = i := by
            have : ¬ K < i := by simpa using h2
            omega
          subst hki
          rw [if_neg (Nat.lt_irrefl K)] at hs
          refine ⟨Int.natCast_nonneg K, K + 1, Enter.id ?_, by omega, by show l.length - (K + 1) < l.length - K; omega⟩
          simp only [hs, List.map_set, getD_num, getD_row, e1, e2, e3, num_def, row_def, num_beq, hw, lt_nat, VL, VB, BEq.rfl, V1, V2, V3, V4, V5, V6, V7, V8, V9, V10, VE, Nat.reduceBEq, Nat.reduceAdd, Nat.reduceSub, Nat.reduceMul, Nat.reduceLeDiff, Nat.reduceLT, Nat.reduceEqDiff, Int.reduceBEq, Int.reduceBNe, Int.reduceLT, Int.reduceLE, Int.reduceAdd, Int.reduceSub, Int.reduceMul]
    · have hi' : i = l.length := by
        have : ¬ i < l.length := by simpa using h
        omega
      subst hi'
      simp only [hst, VL, VB, BEq.rfl, V1, V2, V3, V4, V5, V6, V7, V8, V9, V10, VE, Nat.reduceBEq, Nat.reduceAdd, Nat.reduceSub, Nat.reduceMul, Nat.reduceLeDiff, Nat.reduceLT, Nat.reduceEqDiff, Int.reduceBEq, Int.reduceBNe, Int.reduceLT, Int.reduceLE, Int.reduceAdd, Int.reduceSub, Int.reduceMul]

end Go.Cp
end

section
set_option linter.unusedVariables false
set_option linter.unusedSimpArgs false
set_option maxHeartbeats 4000000
set_option maxRecDepth 10000
namespace Go.Cp
open Go Go.Proofs Go.Vx

def cellI (b : Int) : Cell := if b = 63 then Cell.zero else if b = 45 then ⟨1, 0, 0⟩ else ⟨2, b, 0⟩
def rowTo (s : ByteArray) (k : Nat) : List Cell := (List.range k).map fun i => cellI (byteAt s i)
def rowC (s : ByteArray) : List Cell := rowTo s s.size
theorem rowTo_succ (s : ByteArray) (k : Nat) : rowTo s (k + 1) = rowTo s k ++ [cellI (byteAt s k)] := by
  simp only [rowTo, List.range_succ, List.map_append, List.map_cons, List.map_nil]
theorem rowTo_len (s : ByteArray) (k : Nat) : (rowTo s k).length = k := by simp [rowTo]
theorem byteAt_lt (s : ByteArray) (k : Nat) : 0 ≤ byteAt s k ∧ byteAt s k < 256 := by
  have := (s.data.toList.getD k 0).toNat_lt
  unfold byteAt
  omega
theorem wrap_u32 {n : Int} (h : 0 ≤ n) (h' : n < 256) : IntKind.u32.wrap n = n := by
  rw [IntKind.wrap_u32]; omega

theorem row_ok (s : ByteArray) (hb : s.size * 16 ≤ 140737488355328) : Ok Try.prog E 36 [.c (.sc (.string s))] (.fr 57 ((rowC s).map Cell.enc)) := by
  refine ok_of_vc (L := []) (ts := [2]) envOK mixed Try.func36 rfl (by kernel_rfl) rfl (by kernel_rfl) rfl fun hl => ?_
  simp only [Try.f36, VL, VB, BEq.rfl, V1, V2, V3, V4, V5, V6, V7, V8, V9, V10, VE, Nat.reduceBEq, Nat.reduceAdd, Nat.reduceSub, Nat.reduceMul, Nat.reduceLeDiff, Nat.reduceLT, Nat.reduceEqDiff, Int.reduceBEq, Int.reduceBNe, Int.reduceLT, Int.reduceLE, Int.reduceAdd, Int.reduceSub, Int.reduceMul]
  refine LoopVC.mk (Y := Nat) (fun k => k ≤ s.size) (fun k => ⟨[(0, .c (.sc (.string s))), (3, .osl 1000 0), (4, .c (.sc (.int .i64 k)))], [(1000, .arr 57 0 ((rowTo s k).map Cell.enc))]⟩) (fun k => s.size - k) ⟨0, Enter.mk [(3, (1000, 57))] [] [] ?_, by omega⟩ ?_
  · simp only [rowTo, List.range_zero, List.map_nil, Option.isSome_some, VL, VB, BEq.rfl, V1, V2, V3, V4, V5, V6, V7, V8, V9, V10, VE, Nat.reduceBEq, Nat.reduceAdd, Nat.reduceSub, Nat.reduceMul, Nat.reduceLeDiff, Nat.reduceLT, Nat.reduceEqDiff, Int.reduceBEq, Int.reduceBNe, Int.reduceLT, Int.reduceLE, Int.reduceAdd, Int.reduceSub, Int.reduceMul]
    rfl
  intro k hk
  simp only [lt_nat, VL, VB, BEq.rfl, V1, V2, V3, V4, V5, V6, V7, V8, V9, V10, VE, Nat.reduceBEq, Nat.reduceAdd, Nat.reduceSub, Nat.reduceMul, Nat.reduceLeDiff, Nat.reduceLT, Nat.reduceEqDiff, Int.reduceBEq, Int.reduceBNe, Int.reduceLT, Int.reduceLE, Int.reduceAdd, Int.reduceSub, Int.reduceMul]
  refine guardB.mk (fun h => ?_) (fun h => ?_)
  · have hk' : k < s.size := by simpa using h
    have hw := wrap_nat (k := k) (by omega)
    have hbk := byteAt_lt s k
    have hlen : (rowTo s k).length = k := rowTo_len s k
    have hsu := rowTo_succ s k
    obtain ⟨b, hbd⟩ : ∃ b, byteAt s k = b := ⟨_, rfl⟩
    rw [hbd] at hbk hsu
    have hw32 := wrap_u32 hbk.1 hbk.2
    simp only [hk', hbd, hw, hlen, hw32, enc_def, int_beq, VL, VB, BEq.rfl, V1, V2, V3, V4, V5, V6, V7, V8, V9, V10, VE, Nat.reduceBEq, Nat.reduceAdd, Nat.reduceSub, Nat.reduceMul, Nat.reduceLeDiff, Nat.reduceLT, Nat.reduceEqDiff, Int.reduceBEq, Int.reduceBNe, Int.reduceLT, Int.reduceLE, Int.reduceAdd, Int.reduceSub, Int.reduceMul]
    refine ⟨Int.natCast_nonneg k, ?_⟩
    refine guardB.mk (fun h2 => ?_) (fun h2 => ?_) <;> simp only [h2, hk', hbd, hw, hlen, hw32, enc_def, int_beq, VL, VB, BEq.rfl, V1, V2, V3, V4, V5, V6, V7, V8, V9, V10, VE, Nat.reduceBEq, Nat.reduceAdd, Nat.reduceSub, Nat.reduceMul, Nat.reduceLeDiff, Nat.reduceLT, Nat.reduceEqDiff, Int.reduceBEq, Int.reduceBNe, Int.reduceLT, Int.reduceLE, Int.reduceAdd, Int.reduceSub, Int.reduceMul]
    · have hc : cellI b = Cell.zero := by rw [cellI, if_pos (by simpa using h2)]
      refine ⟨⟨by omega, allLen_one rfl⟩, k + 1, Enter.id ?_, by omega, by show s.size - (k + 1) < s.size - k; omega⟩
      simp only [hsu, hc, List.map_append, hk', hbd, hw, hlen, hw32, enc_def, int_beq, VL, VB, BEq.rfl, V1, V2, V3, V4, V5, V6, V7, V8, V9, V10, VE, Nat.reduceBEq, Nat.reduceAdd, Nat.reduceSub, Nat.reduceMul, Nat.reduceLeDiff, Nat.reduceLT, Nat.reduceEqDiff, Int.reduceBEq, Int.reduceBNe, Int.reduceLT, Int.reduceLE, Int.reduceAdd, Int.reduceSub, Int.reduceMul]
      exact ⟨rfl, rfl⟩
    · refine guardB.mk (fun h3 => ?_) (fun h3 => ?_) <;> simp only [h3, hk', hbd, hw, hlen, hw32, enc_def, int_beq, VL, VB, BEq.rfl, V1, V2, V3, V4, V5, V6, V7, V8, V9, V10, VE, Nat.reduceBEq, Nat.reduceAdd, Nat.reduceSub, Nat.reduceMul, Nat.reduceLeDiff, Nat.reduceLT, Nat.reduceEqDiff, Int.reduceBEq, Int.reduceBNe, Int.reduceLT, Int.reduceLE, Int.reduceAdd, Int.reduceSub, Int.reduceMul]
      · have hc : cellI b = ⟨1, 0, 0⟩ := by rw [cellI, if_neg (by simpa using h2), if_pos (by simpa using h3)]
        refine ⟨⟨by omega, allLen_one rfl⟩, k + 1, Enter.id ?_, by omega, by show s.size - (k + 1) < s.size - k; omega⟩
        simp only [hsu, hc, List.map_append, hk', hbd, hw, hlen, hw32, enc_def, int_beq, VL, VB, BEq.rfl, V1, V2, V3, V4, V5, V6, V7, V8, V9, V10, VE, Nat.reduceBEq, Nat.reduceAdd, Nat.reduceSub, Nat.reduceMul, Nat.reduceLeDiff, Nat.reduceLT, Nat.reduceEqDiff, Int.reduceBEq, Int.reduceBNe, Int.reduceLT, Int.reduceLE, Int.reduceAdd, Int.reduceSub, Int.reduceMul]
      · have hc : cellI b = ⟨2, b, 0⟩ := by rw [cellI, if_neg (by simpa using h2), if_neg (by simpa using h3)]
        refine ⟨Int.natCast_nonneg k, ⟨by omega, allLen_one rfl⟩, k + 1, Enter.id ?_, by omega, by show s.size - (k + 1) < s.size - k; omega⟩
        simp only [hsu, hc, List.map_append, hk', hbd, hw, hlen, hw32, enc_def, int_beq, VL, VB, BEq.rfl, V1, V2, V3, V4, V5, V6, V7, V8, V9, V10, VE, Nat.reduceBEq, Nat.reduceAdd, Nat.reduceSub, Nat.reduceMul, Nat.reduceLeDiff, Nat.reduceLT, Nat.reduceEqDiff, Int.reduceBEq, Int.reduceBNe, Int.reduceLT, Int.reduceLE, Int.reduceAdd, Int.reduceSub, Int.reduceMul]
  · have hk' : k = s.size := by
      have : ¬ k < s.size := by simpa using h
      omega
    subst hk'
    simp only [rowC, VL, VB, BEq.rfl, V1, V2, V3, V4, V5, V6, V7, V8, V9, V10, VE, Nat.reduceBEq, Nat.reduceAdd, Nat.reduceSub, Nat.reduceMul, Nat.reduceLeDiff, Nat.reduceLT, Nat.reduceEqDiff, Int.reduceBEq, Int.reduceBNe, Int.reduceLT, Int.reduceLE, Int.reduceAdd, Int.reduceSub, Int.reduceMul]

def strD (s : ByteArray) : List D := [.sc (.string s)]
theorem str_def (s : ByteArray) : strD s = [.sc (.string s)] := rfl
theorem getD_str (l : List ByteArray) (k : Nat) (h : k < l.length) : (l.map strD).getD k [] = strD (l.getD k default) := by
  simp [List.getD, List.getElem?_map, List.getElem?_eq_getElem h]
def rowOne (s : ByteArray) : Corr := ⟨rowC s, 1⟩
def rowsC (l : List ByteArray) : List Corr := l.map rowOne
theorem take_next {α : Type} {l : List α} {k : Nat} (z : α) (h : k < l.length) : l.take (k + 1) = l.take k ++ [l.getD k z] := by
  rw [List.take_add_one, List.getD, List.getElem?_eq_getElem h]; rfl

theorem rows_ok (l : List ByteArray) (hb : ∀ s ∈ l, s.size * 16 ≤ 140737488355328) (hn : l.length * 32 ≤ 140737488355328) : Ok Try.prog E 37 [.c (.sl (l.map strD))] (.fr 52 ((rowsC l).map Corr.enc)) := by
  refine ok_of_vc (L := []) (ts := [2]) envOK mixed Try.func37 rfl (by kernel_rfl) rfl (by kernel_rfl) rfl fun hl => ?_
  simp only [Try.f37, VL, VB, BEq.rfl, V1, V2, V3, V4, V5, V6, V7, V8, V9, V10, VE, Nat.reduceBEq, Nat.reduceAdd, Nat.reduceSub, Nat.reduceMul, Nat.reduceLeDiff, Nat.reduceLT, Nat.reduceEqDiff, Int.reduceBEq, Int.reduceBNe, Int.reduceLT, Int.reduceLE, Int.reduceAdd, Int.reduceSub, Int.reduceMul]
  refine LoopVC.mk (Y := Nat) (fun k => k ≤ l.length) (fun k => ⟨[(6, .c (.sl (l.map strD))), (3, .osl 1000 0), (7, .c (.sc (.int .i64 l.length))), (8, .c (.sc (.int .i64 k)))], [(1000, .arr 52 0 ((rowsC (l.take k)).map Corr.enc))]⟩) (fun k => l.length - k) ⟨0, Enter.mk [(3, (1000, 52))] [] [] ?_, by omega⟩ ?_
  · simp only [rowsC, List.take_zero, List.map_nil, Option.isSome_some, VL, VB, BEq.rfl, V1, V2, V3, V4, V5, V6, V7, V8, V9, V10, VE, Nat.reduceBEq, Nat.reduceAdd, Nat.reduceSub, Nat.reduceMul, Nat.reduceLeDiff, Nat.reduceLT, Nat.reduceEqDiff, Int.reduceBEq, Int.reduceBNe, Int.reduceLT, Int.reduceLE, Int.reduceAdd, Int.reduceSub, Int.reduceMul]
    rfl
  intro k hk
  simp only [lt_nat, VL, VB, BEq.rfl, V1, V2, V3, V4, V5, V6, V7, V8, V9, V10, VE, Nat.reduceBEq, Nat.reduceAdd, Nat.reduceSub, Nat.reduceMul, Nat.reduceLeDiff, Nat.reduceLT, Nat.reduceEqDiff, Int.reduceBEq, Int.reduceBNe, Int.reduceLT, Int.reduceLE, Int.reduceAdd, Int.reduceSub, Int.reduceMul]
  refine guardB.mk (fun h => ?_) (fun h => ?_)
  · have hk' : k < l.length := by simpa using h
    have hw := wrap_nat (k := k) (by omega)
    have ht := take_next default hk'
    have hmem : l.getD k default ∈ l := getD_mem hk'
    obtain ⟨s, hs⟩ : ∃ s, l.getD k default = s := ⟨_, rfl⟩
    rw [hs] at ht hmem
    have hlen : (rowsC (l.take k)).length = k := by rw [rowsC, List.length_map, List.length_take]; omega
    have hsu : rowsC (l.take (k + 1)) = rowsC (l.take k) ++ [rowOne s] := by rw [ht, rowsC, List.map_append]; rfl
    simp only [getD_str, hk', hs, hw, hlen, str_def, VL, VB, BEq.rfl, V1, V2, V3, V4, V5, V6, V7, V8, V9, V10, VE, Nat.reduceBEq, Nat.reduceAdd, Nat.reduceSub, Nat.reduceMul, Nat.reduceLeDiff, Nat.reduceLT, Nat.reduceEqDiff, Int.reduceBEq, Int.reduceBNe, Int.reduceLT, Int.reduceLE, Int.reduceAdd, Int.reduceSub, Int.reduceMul]
    refine ⟨Int.natCast_nonneg k, ?_⟩
    refine CallX.mk (row_ok s (hb s hmem)) rfl ?_
    simp only [getD_str, hk', hs, hw, hlen, str_def, VL, VB, BEq.rfl, V1, V2, V3, V4, V5, V6, V7, V8, V9, V10, VE, Nat.reduceBEq, Nat.reduceAdd, Nat.reduceSub, Nat.reduceMul, Nat.reduceLeDiff, Nat.reduceLT, Nat.reduceEqDiff, Int.reduceBEq, Int.reduceBNe, Int.reduceLT, Int.reduceLE, Int.reduceAdd, Int.reduceSub, Int.reduceMul]
    refine ⟨⟨by omega, allLen_one rfl⟩, k + 1, Enter.id ?_, by omega, by show l.length - (k + 1) < l.length - k; omega⟩
    simp only [hsu, List.map_append, rowOne, corr_def, getD_str, hk', hs, hw, hlen, str_def, VL, VB, BEq.rfl, V1, V2, V3, V4, V5, V6, V7, V8, V9, V10, VE, Nat.reduceBEq, Nat.reduceAdd, Nat.reduceSub, Nat.reduceMul, Nat.reduceLeDiff, Nat.reduceLT, Nat.reduceEqDiff, Int.reduceBEq, Int.reduceBNe, Int.reduceLT, Int.reduceLE, Int.reduceAdd, Int.reduceSub, Int.reduceMul]
  · have hk' : k = l.length := by
      have : ¬ k < l.length := by simpa using h
      omega
    subst hk'
    simp only [List.take_length, VL, VB, BEq.rfl, V1, V2, V3, V4, V5, V6, V7, V8, V9, V10, VE, Nat.reduceBEq, Nat.reduceAdd, Nat.reduceSub, Nat.reduceMul, Nat.reduceLeDiff, Nat.reduceLT, Nat.reduceEqDiff, Int.reduceBEq, Int.reduceBNe, Int.reduceLT, Int.reduceLE, Int.reduceAdd, Int.reduceSub, Int.reduceMul]

end Go.Cp
end

section
set_option linter.unusedVariables false
set_option linter.unusedSimpArgs false
set_option maxHeartbeats 4000000
set_option maxRecDepth 10000
namespace Go.Cp
open Go Go.Proofs Go.Vx

theorem rowC_list (s : ByteArray) : rowC s = s.data.toList.map fun u => cellI (u.toNat : Int) := by
  apply List.ext_getElem?
  intro i
  have hs : s.data.toList.length = s.size := by rw [Array.length_toList]; rfl
  rw [rowC, rowTo, List.getElem?_map, List.getElem?_map]
  by_cases h : i < s.size
  · rw [List.getElem?_range h, List.getElem?_eq_getElem (by omega), Option.map_some, Option.map_some, byteAt, List.getD, List.getElem?_eq_getElem (by omega)]
    rfl
  · rw [List.getElem?_eq_none (by rw [List.length_range]; omega), List.getElem?_eq_none (by omega)]
    rfl
theorem rowC_append (a b : ByteArray) : rowC (a ++ b) = rowC a ++ rowC b := by
  rw [rowC_list, rowC_list, rowC_list, ← List.map_append, ByteArray.data_append, Array.toList_append]

def quads : ByteArray := ⟨#[63, 45, 112, 98]⟩
def quad (d : Nat) : ByteArray := quads.extract d (d + 1)
def digS (n : Nat) : Nat → ByteArray
  | 0 => ⟨#[]⟩
  | k + 1 => digS n k ++ quad (n / 4 ^ k % 4)
def digC (d : Nat) : Cell := if d = 0 then Cell.zero else if d = 1 then ⟨1, 0, 0⟩ else if d = 2 then ⟨2, 112, 0⟩ else ⟨2, 98, 0⟩
theorem quad_one {d : Nat} (h : d < 4) : (quad d).size = 1 ∧ rowC (quad d) = [digC d] := by
  match d, h with
  | 0, _ => decide
  | 1, _ => decide
  | 2, _ => decide
  | 3, _ => decide
theorem digS_size (n : Nat) : ∀ k, (digS n k).size = k
  | 0 => rfl
  | k + 1 => by rw [digS, ByteArray.size_append, digS_size n k, (quad_one (Nat.mod_lt _ (by omega))).1]
theorem digS_row (n : Nat) : ∀ k, rowC (digS n k) = (List.range k).map fun j => digC (n / 4 ^ j % 4)
  | 0 => rfl
  | k + 1 => by rw [digS, rowC_append, digS_row n k, (quad_one (Nat.mod_lt _ (by omega))).2, List.range_succ, List.map_append]; rfl

def madeRow (n : Nat) : List Cell := (List.range 5).map fun j => digC (n / 4 ^ j % 4)
def madeOne (n : Nat) : Corr := ⟨madeRow n, (n % 7 : Nat)⟩
def madeC (l : List Nat) : List Corr := (l.take 12).map madeOne
def u16D (n : Nat) : List D := [.sc (.int .u16 n)]
theorem u16_def (n : Nat) : u16D n = [.sc (.int .u16 n)] := rfl
theorem getD_u16 (l : List Nat) (k : Nat) (h : k < l.length) : (l.map u16D).getD k [] = u16D (l.getD k 0) := by
  simp [List.getD, List.getElem?_map, List.getElem?_eq_getElem h]

theorem made_ok (l : List Nat) (hl : ∀ n ∈ l, n < 65536) : Ok Try.prog E 32 [.c (.sl (l.map u16D))] (.fr 52 ((madeC l).map Corr.enc)) := by
  refine ok_of_vc (L := [(10, [(2, 5), (2, 6)])]) (ts := [2]) envOK mixed Try.func32 rfl (by kernel_rfl) rfl (by kernel_rfl) rfl fun hla => ?_
  have hx := len_of (hla _ (List.mem_cons_self ..))
  rw [List.length_map] at hx
  simp only [Try.f32, VL, VB, BEq.rfl, V1, V2, V3, V4, V5, V6, V7, V8, V9, V10, VE, Nat.reduceBEq, Nat.reduceAdd, Nat.reduceSub, Nat.reduceMul, Nat.reduceLeDiff, Nat.reduceLT, Nat.reduceEqDiff, Int.reduceBEq, Int.reduceBNe, Int.reduceLT, Int.reduceLE, Int.reduceAdd, Int.reduceSub, Int.reduceMul]
  refine LoopVC.mk (Y := Nat) (fun k => k ≤ l.length ∧ k ≤ 12) (fun k => ⟨[(0, .c (.sl (l.map u16D))), (3, .osl 1000 0), (4, .c (.sc (.int .i64 k)))], [(1000, .arr 52 0 ((madeC (l.take k)).map Corr.enc))]⟩) (fun k => l.length - k) ⟨0, Enter.mk [(3, (1000, 52))] [] [] ?_, by omega, by omega⟩ ?_
  · simp only [madeC, List.take_nil, List.take_zero, List.map_nil, Option.isSome_some, VL, VB, BEq.rfl, V1, V2, V3, V4, V5, V6, V7, V8, V9, V10, VE, Nat.reduceBEq, Nat.reduceAdd, Nat.reduceSub, Nat.reduceMul, Nat.reduceLeDiff, Nat.reduceLT, Nat.reduceEqDiff, Int.reduceBEq, Int.reduceBNe, Int.reduceLT, Int.reduceLE, Int.reduceAdd, Int.reduceSub, Int.reduceMul]
    rfl
  rintro k ⟨hk, hk2⟩
  have hg12 : decide ((k : Int) < 12) = decide (k < 12) := lt_nat (b := 12)
  have hall : ¬ (k < l.length ∧ k < 12) → madeC (l.take k) = madeC l := fun h => by
    rw [madeC, madeC]
    rcases Nat.lt_or_ge k l.length with h1 | h1
    · have : k = 12 := by omega
      subst this
      rw [List.take_take, Nat.min_self]
    · rw [List.take_of_length_le h1]
  simp only [lt_nat, hg12, VL, VB, BEq.rfl, V1, V2, V3, V4, V5, V6, V7, V8, V9, V10, VE, Nat.reduceBEq, Nat.reduceAdd, Nat.reduceSub, Nat.reduceMul, Nat.reduceLeDiff, Nat.reduceLT, Nat.reduceEqDiff, Int.reduceBEq, Int.reduceBNe, Int.reduceLT, Int.reduceLE, Int.reduceAdd, Int.reduceSub, Int.reduceMul]
  refine guardB.mk (fun h => ?_) (fun h => ?_) <;> simp only [h, VL, VB, BEq.rfl, V1, V2, V3, V4, V5, V6, V7, V8, V9, V10, VE, Nat.reduceBEq, Nat.reduceAdd, Nat.reduceSub, Nat.reduceMul, Nat.reduceLeDiff, Nat.reduceLT, Nat.reduceEqDiff, Int.reduceBEq, Int.reduceBNe, Int.reduceLT, Int.reduceLE, Int.reduceAdd, Int.reduceSub, Int.reduceMul]
  · refine guardB.mk (fun h2 => ?_) (fun h2 => ?_) <;> simp only [h2, VL, VB, BEq.rfl, V1, V2, V3, V4, V5, V6, V7, V8, V9, V10, VE, Nat.reduceBEq, Nat.reduceAdd, Nat.reduceSub, Nat.reduceMul, Nat.reduceLeDiff, Nat.reduceLT, Nat.reduceEqDiff, Int.reduceBEq, Int.reduceBNe, Int.reduceLT, Int.reduceLE, Int.reduceAdd, Int.reduceSub, Int.reduceMul]
    · have hk' : k < l.length := by simpa using h
      have hk12 : k < 12 := by simp at h2; omega
      have hw := wrap_nat (k := k) (by omega)
      have ht := take_next 0 hk'
      have hmem : l.getD k 0 ∈ l := getD_mem hk'
      obtain ⟨n, hs⟩ : ∃ n, l.getD k 0 = n := ⟨_, rfl⟩
      rw [hs] at ht hmem
      have hn := hl n hmem
      have hlen : (madeC (l.take k)).length = k := by rw [madeC, List.length_map, List.length_take, List.length_take]; omega
      have hsu : madeC (l.take (k + 1)) = madeC (l.take k) ++ [madeOne n] := by
        rw [madeC, madeC, ht, List.take_of_length_le (by rw [List.length_append, List.length_take]; simp only [List.length_cons, List.length_nil]; omega), List.take_of_length_le (l := l.take k) (by rw [List.length_take]; omega), List.map_append]; rfl
      have hwn : IntKind.i64.wrap (n : Int) = n := wrap_of (by omega) (by omega)
      simp only [getD_u16, hk', hs, hw, hwn, hlen, u16_def, VL, VB, BEq.rfl, V1, V2, V3, V4, V5, V6, V7, V8, V9, V10, VE, Nat.reduceBEq, Nat.reduceAdd, Nat.reduceSub, Nat.reduceMul, Nat.reduceLeDiff, Nat.reduceLT, Nat.reduceEqDiff, Int.reduceBEq, Int.reduceBNe, Int.reduceLT, Int.reduceLE, Int.reduceAdd, Int.reduceSub, Int.reduceMul]
      refine ⟨Int.natCast_nonneg k, ?_⟩
      refine LoopVC.cut (Y := Nat) (Z := Unit) 2 (fun j => j ≤ 5) (fun j => ⟨[(0, .c (.sl (l.map u16D))), (3, .osl 1000 0), (4, .c (.sc (.int .i64 k))), (5, .c (.sc (.string (digS n j)))), (6, .c (.sc (.int .i64 j))), (7, .c (.sc (.int .i64 (n / 4 ^ j : Nat))))], [(1000, .arr 52 0 ((madeC (l.take k)).map Corr.enc))]⟩) (fun j => 5 - j)
        (fun _ => True) (fun _ => ⟨[(0, .c (.sl (l.map u16D))), (3, .osl 1000 0), (4, .c (.sc (.int .i64 k))), (5, .c (.sc (.string (digS n 5))))], [(1000, .arr 52 0 ((madeC (l.take k)).map Corr.enc))]⟩) ⟨0, Enter.id ?_, by omega⟩ ?_ ?_
      · simp only [digS, Nat.pow_zero, Nat.div_one, getD_u16, hk', hs, hw, hwn, hlen, u16_def, VL, VB, BEq.rfl, V1, V2, V3, V4, V5, V6, V7, V8, V9, V10, VE, Nat.reduceBEq, Nat.reduceAdd, Nat.reduceSub, Nat.reduceMul, Nat.reduceLeDiff, Nat.reduceLT, Nat.reduceEqDiff, Int.reduceBEq, Int.reduceBNe, Int.reduceLT, Int.reduceLE, Int.reduceAdd, Int.reduceSub, Int.reduceMul]
        rfl
      · intro j hj
        have hg5 : decide ((j : Int) < 5) = decide (j < 5) := lt_nat (b := 5)
        simp only [hg5, getD_u16, hk', hs, hw, hwn, hlen, u16_def, VL, VB, BEq.rfl, V1, V2, V3, V4, V5, V6, V7, V8, V9, V10, VE, Nat.reduceBEq, Nat.reduceAdd, Nat.reduceSub, Nat.reduceMul, Nat.reduceLeDiff, Nat.reduceLT, Nat.reduceEqDiff, Int.reduceBEq, Int.reduceBNe, Int.reduceLT, Int.reduceLE, Int.reduceAdd, Int.reduceSub, Int.reduceMul]
        refine guardB.mk (fun h3 => ?_) (fun h3 => ?_) <;> simp only [h3, getD_u16, hk', hs, hw, hwn, hlen, u16_def, VL, VB, BEq.rfl, V1, V2, V3, V4, V5, V6, V7, V8, V9, V10, VE, Nat.reduceBEq, Nat.reduceAdd, Nat.reduceSub, Nat.reduceMul, Nat.reduceLeDiff, Nat.reduceLT, Nat.reduceEqDiff, Int.reduceBEq, Int.reduceBNe, Int.reduceLT, Int.reduceLE, Int.reduceAdd, Int.reduceSub, Int.reduceMul]
        · have hj5 : j < 5 := by simpa using h3
          have hwj := wrap_nat (k := j) (by omega)
          have hm4 : n / 4 ^ j % 4 < 4 := Nat.mod_lt _ (by omega)
          have hmo : ((n / 4 ^ j : Nat) : Int).tmod 4 = ((n / 4 ^ j % 4 : Nat) : Int) := by rw [Int.tmod_eq_emod_of_nonneg (Int.natCast_nonneg _)]; rfl
          have hdi : ((n / 4 ^ j : Nat) : Int).tdiv 4 = ((n / 4 ^ (j + 1) : Nat) : Int) := by
            rw [Int.tdiv_eq_ediv_of_nonneg (Int.natCast_nonneg _), Nat.pow_succ, ← Nat.div_div_eq_div_mul]; rfl
          have hle : n / 4 ^ (j + 1) ≤ n := Nat.div_le_self _ _
          have hwd : IntKind.i64.wrap ((n / 4 ^ (j + 1) : Nat) : Int) = (n / 4 ^ (j + 1) : Nat) := wrap_of (Int.natCast_nonneg _) (by omega)
          have hwm := wrap_nat (k := n / 4 ^ j % 4) (by omega)
          have hq : ByteArray.extract { data := #[63, 45, 112, 98] } (n / 4 ^ j % 4) (n / 4 ^ j % 4 + 1) = quad (n / 4 ^ j % 4) := rfl
          have hsz := digS_size n j
          have hqs := (quad_one hm4).1
          simp only [hwj, hmo, hdi, hwd, hwm, hq, hsz, hqs, getD_u16, hk', hs, hw, hwn, hlen, u16_def, VL, VB, BEq.rfl, V1, V2, V3, V4, V5, V6, V7, V8, V9, V10, VE, Nat.reduceBEq, Nat.reduceAdd, Nat.reduceSub, Nat.reduceMul, Nat.reduceLeDiff, Nat.reduceLT, Nat.reduceEqDiff, Int.reduceBEq, Int.reduceBNe, Int.reduceLT, Int.reduceLE, Int.reduceAdd, Int.reduceSub, Int.reduceMul]
          refine ⟨by omega, by omega, ⟨Int.natCast_nonneg _, by omega, ?_⟩, by omega, by omega, j + 1, Enter.id ?_, by omega, by show 5 - (j + 1) < 5 - j; omega⟩
          · show _ ≤ ((4 : Nat) : Int)
            omega
          · simp only [digS, hwj, hmo, hdi, hwd, hwm, hq, hsz, hqs, getD_u16, hk', hs, hw, hwn, hlen, u16_def, VL, VB, BEq.rfl, V1, V2, V3, V4, V5, V6, V7, V8, V9, V10, VE, Nat.reduceBEq, Nat.reduceAdd, Nat.reduceSub, Nat.reduceMul, Nat.reduceLeDiff, Nat.reduceLT, Nat.reduceEqDiff, Int.reduceBEq, Int.reduceBNe, Int.reduceLT, Int.reduceLE, Int.reduceAdd, Int.reduceSub, Int.reduceMul]
        · have hj5 : j = 5 := by
            have : ¬ j < 5 := by simpa using h3
            omega
          subst hj5
          refine ⟨(), Enter.id ?_, trivial⟩
          simp only [getD_u16, hk', hs, hw, hwn, hlen, u16_def, VL, VB, BEq.rfl, V1, V2, V3, V4, V5, V6, V7, V8, V9, V10, VE, Nat.reduceBEq, Nat.reduceAdd, Nat.reduceSub, Nat.reduceMul, Nat.reduceLeDiff, Nat.reduceLT, Nat.reduceEqDiff, Int.reduceBEq, Int.reduceBNe, Int.reduceLT, Int.reduceLE, Int.reduceAdd, Int.reduceSub, Int.reduceMul]
      · rintro _ _
        have hmo : (n : Int).tmod 7 = ((n % 7 : Nat) : Int) := by rw [Int.tmod_eq_emod_of_nonneg (Int.natCast_nonneg _)]; rfl
        have hsz := digS_size n 5
        simp only [hmo, getD_u16, hk', hs, hw, hwn, hlen, u16_def, VL, VB, BEq.rfl, V1, V2, V3, V4, V5, V6, V7, V8, V9, V10, VE, Nat.reduceBEq, Nat.reduceAdd, Nat.reduceSub, Nat.reduceMul, Nat.reduceLeDiff, Nat.reduceLT, Nat.reduceEqDiff, Int.reduceBEq, Int.reduceBNe, Int.reduceLT, Int.reduceLE, Int.reduceAdd, Int.reduceSub, Int.reduceMul]
        refine CallX.mk (row_ok (digS n 5) (by omega)) rfl ?_
        simp only [hmo, getD_u16, hk', hs, hw, hwn, hlen, u16_def, VL, VB, BEq.rfl, V1, V2, V3, V4, V5, V6, V7, V8, V9, V10, VE, Nat.reduceBEq, Nat.reduceAdd, Nat.reduceSub, Nat.reduceMul, Nat.reduceLeDiff, Nat.reduceLT, Nat.reduceEqDiff, Int.reduceBEq, Int.reduceBNe, Int.reduceLT, Int.reduceLE, Int.reduceAdd, Int.reduceSub, Int.reduceMul]
        refine ⟨Int.natCast_nonneg k, by omega, ⟨by omega, allLen_one rfl⟩, k + 1, Enter.id ?_, ⟨by omega, by omega⟩, by show l.length - (k + 1) < l.length - k; omega⟩
        simp only [hsu, List.map_append, madeOne, madeRow, ← digS_row, corr_def, hmo, getD_u16, hk', hs, hw, hwn, hlen, u16_def, VL, VB, BEq.rfl, V1, V2, V3, V4, V5, V6, V7, V8, V9, V10, VE, Nat.reduceBEq, Nat.reduceAdd, Nat.reduceSub, Nat.reduceMul, Nat.reduceLeDiff, Nat.reduceLT, Nat.reduceEqDiff, Int.reduceBEq, Int.reduceBNe, Int.reduceLT, Int.reduceLE, Int.reduceAdd, Int.reduceSub, Int.reduceMul]
    · rw [hall (by simp at h2; omega)]
  · rw [hall (by simp at h; omega)]

end Go.Cp
end
