/-
  Compat: the document's Patterns. Conditions: none.
  Compat: the document's Predict. Conditions: none.
  Compat: the document's Greedy. Conditions: none.
-/
import Derived.Test.YtiafkdnbfpfmiaaMG
import Derived.Test.YtiafkdnbfpfmiaaMF

section
set_option linter.unusedVariables false
set_option linter.unusedSimpArgs false
set_option maxHeartbeats 8000000
set_option maxRecDepth 10000
namespace Go.Cp
open Go Go.Proofs Go.Vx

theorem rcheck_len {l : List Corr} {n : Nat} (h : checkR l n = 0) : l.length ≤ n := by
  unfold checkR at h
  split at h
  · cases h
  · omega
theorem rcheck_list {l : List Corr} {n : Nat} (h : checkR l n = 0) : listR l = true := by
  unfold checkR at h
  split at h
  · cases h
  · split at h
    · assumption
    · cases h
theorem rlist_lens {l : List Corr} (h : listR l = true) : ∀ c ∈ l, c.cells.length = headLen l ∧ 0 ≤ c.count ∧ c.count ≤ 1073741824 := fun c hc => by
  have := List.all_eq_true.1 h c hc
  simp only [corrD, Bool.and_eq_true, Bool.not_eq_true', decide_eq_true_eq, decide_eq_false_iff_not] at this
  exact ⟨this.2.2.2, by omega, by omega⟩

def addR (x c : Corr) : Corr := ⟨joinR x.cells c.cells, x.count + c.count⟩
def rowTo' (l : List Corr) (labels : List Int) (k i : Nat) : Corr := (List.range i).foldl (fun x j => if k < j ∧ labels.getD j 0 = (k : Int) then addR x (l.getD j Corr.zero) else x) (l.getD k Corr.zero)
theorem rowTo'_succ (l : List Corr) (labels : List Int) (k i : Nat) : rowTo' l labels k (i + 1) = if k < i ∧ labels.getD i 0 = (k : Int) then addR (rowTo' l labels k i) (l.getD i Corr.zero) else rowTo' l labels k i := by
  simp only [rowTo', List.range_succ, List.foldl_append, List.foldl_cons, List.foldl_nil]
theorem rowTo'_start (l : List Corr) (labels : List Int) (k : Nat) : ∀ i, i ≤ k + 1 → rowTo' l labels k i = l.getD k Corr.zero
  | 0, _ => rfl
  | i + 1, h => by rw [rowTo'_succ, if_neg (by omega), rowTo'_start l labels k i (by omega)]
def outR (l : List Corr) (labels : List Int) (k : Nat) : List Corr := (List.range k).filterMap fun i => if labels.getD i 0 = (i : Int) then some (rowTo' l labels i l.length) else none
theorem outR_succ (l : List Corr) (labels : List Int) (k : Nat) : outR l labels (k + 1) = outR l labels k ++ (if labels.getD k 0 = (k : Int) then [rowTo' l labels k l.length] else []) := by
  simp only [outR, List.range_succ, List.filterMap_append, List.filterMap_cons, List.filterMap_nil]
  split <;> rename_i h <;> split at h <;> simp_all
theorem outR_len (l : List Corr) (labels : List Int) (k : Nat) : (outR l labels k).length ≤ k := by
  refine Nat.le_trans (List.length_filterMap_le _ _) ?_
  rw [List.length_range]; exact Nat.le_refl _
def patER (l : List Corr) (labels : List Int) : Int := if checkR l 256 ≠ 0 then checkR l 256 else if labels.length = l.length ∧ canonC labels = true then (if allowedR l labels = true then 0 else 8) else 2
def patOR (l : List Corr) (labels : List Int) : List Corr := if patER l labels = 0 then outR l labels l.length else []
theorem rowTo'_ok {l : List Corr} {labels : List Int} {m : Nat} (hm : ∀ c ∈ l, c.cells.length = m ∧ 0 ≤ c.count ∧ c.count ≤ 1073741824) {k : Nat} (hk : k < l.length) : ∀ i, i ≤ l.length → (rowTo' l labels k i).cells.length = m ∧ 0 ≤ (rowTo' l labels k i).count ∧ (rowTo' l labels k i).count ≤ (i + 1) * 1073741824
  | 0, _ => by
    have := hm _ (getD_mem (z := Corr.zero) hk)
    simp only [rowTo', List.range_zero, List.foldl_nil]
    exact ⟨this.1, this.2.1, by omega⟩
  | i + 1, hi => by
    have ih := rowTo'_ok hm hk i (by omega) (labels := labels)
    have hc := hm _ (getD_mem (z := Corr.zero) (show i < l.length by omega))
    rw [rowTo'_succ]
    split
    · refine ⟨?_, ?_, ?_⟩
      · simp only [addR]
        rw [joinR_len (by omega)]; exact ih.1
      · simp only [addR]; omega
      · simp only [addR]; omega
    · exact ⟨ih.1, ih.2.1, by omega⟩

theorem rpatterns_ok (l : List Corr) (labels : List Int) (hb : ∀ c ∈ l, c.cells.length * 16 ≤ 140737488355328) : Ok Try.prog E 29 [.c (corrs l), .c (nums labels)] (.tp [.fr 52 ((patOR l labels).map Corr.enc), nv (patER l labels)]) := by
  refine ok_of_vc (L := [(13, [(0, 3), (0, 4), (0, 5), (0, 9), (6, 9), (0, 10), (6, 10), (0, 11), (6, 11), (0, 13), (3, 13), (4, 13), (5, 13), (6, 13), (9, 13), (10, 13), (11, 13), (12, 13)])]) (ts := [4, 5]) envOK mixed Try.func29 rfl (by kernel_rfl) rfl (by kernel_rfl) rfl fun hl => ?_
  simp only [Try.f29, nv, len_ne', num_beq, VL, VB, BEq.rfl, V1, V2, V3, V4, V5, V6, V7, V8, V9, V10, VE, Nat.reduceBEq, Nat.reduceAdd, Nat.reduceSub, Nat.reduceMul, Nat.reduceLeDiff, Nat.reduceLT, Nat.reduceEqDiff, Int.reduceBEq, Int.reduceBNe, Int.reduceLT, Int.reduceLE, Int.reduceAdd, Int.reduceSub, Int.reduceMul]
  refine CallX.mk (rcheck_ok l 256) rfl ?_
  simp only [nv, len_ne', num_beq, VL, VB, BEq.rfl, V1, V2, V3, V4, V5, V6, V7, V8, V9, V10, VE, Nat.reduceBEq, Nat.reduceAdd, Nat.reduceSub, Nat.reduceMul, Nat.reduceLeDiff, Nat.reduceLT, Nat.reduceEqDiff, Int.reduceBEq, Int.reduceBNe, Int.reduceLT, Int.reduceLE, Int.reduceAdd, Int.reduceSub, Int.reduceMul]
  refine guardB.mk (fun h => ?_) (fun h => ?_)
  · have h0 : ¬ checkR l 256 = 0 := by simpa using h
    have he : patER l labels = checkR l 256 := by rw [patER, if_pos h0]
    simp only [patOR, he, h0, if_false, Option.isSome_some, List.map_nil, len_ne', num_beq, VL, VB, BEq.rfl, V1, V2, V3, V4, V5, V6, V7, V8, V9, V10, VE, Nat.reduceBEq, Nat.reduceAdd, Nat.reduceSub, Nat.reduceMul, Nat.reduceLeDiff, Nat.reduceLT, Nat.reduceEqDiff, Int.reduceBEq, Int.reduceBNe, Int.reduceLT, Int.reduceLE, Int.reduceAdd, Int.reduceSub, Int.reduceMul]
  have h0 : checkR l 256 = 0 := by simpa using h
  have hn : l.length ≤ 256 := rcheck_len (n := 256) h0
  have hm := rlist_lens (rcheck_list (n := 256) h0)
  have hpe : patER l labels = if labels.length = l.length ∧ canonC labels = true then (if allowedR l labels = true then 0 else 8) else 2 := by rw [patER, if_neg (by simpa using h0)]
  have h2 : ¬ (2 : Int) = 0 := by omega
  have h8 : ¬ (8 : Int) = 0 := by omega
  simp only [len_ne', num_beq, VL, VB, BEq.rfl, V1, V2, V3, V4, V5, V6, V7, V8, V9, V10, VE, Nat.reduceBEq, Nat.reduceAdd, Nat.reduceSub, Nat.reduceMul, Nat.reduceLeDiff, Nat.reduceLT, Nat.reduceEqDiff, Int.reduceBEq, Int.reduceBNe, Int.reduceLT, Int.reduceLE, Int.reduceAdd, Int.reduceSub, Int.reduceMul]
  refine guardB.mk (fun h => ?_) (fun h => ?_)
  · have hne : ¬ labels.length = l.length := by simp at h; omega
    have he : patER l labels = 2 := by rw [hpe, if_neg (fun h => hne h.1)]
    simp only [patOR, he, h2, h, if_false, Option.isSome_some, List.map_nil, len_ne', num_beq, VL, VB, BEq.rfl, V1, V2, V3, V4, V5, V6, V7, V8, V9, V10, VE, Nat.reduceBEq, Nat.reduceAdd, Nat.reduceSub, Nat.reduceMul, Nat.reduceLeDiff, Nat.reduceLT, Nat.reduceEqDiff, Int.reduceBEq, Int.reduceBNe, Int.reduceLT, Int.reduceLE, Int.reduceAdd, Int.reduceSub, Int.reduceMul]
  have hlen : labels.length = l.length := by simp at h; omega
  simp only [h, len_ne', num_beq, VL, VB, BEq.rfl, V1, V2, V3, V4, V5, V6, V7, V8, V9, V10, VE, Nat.reduceBEq, Nat.reduceAdd, Nat.reduceSub, Nat.reduceMul, Nat.reduceLeDiff, Nat.reduceLT, Nat.reduceEqDiff, Int.reduceBEq, Int.reduceBNe, Int.reduceLT, Int.reduceLE, Int.reduceAdd, Int.reduceSub, Int.reduceMul]
  refine CallX.mk (rcanonical_ok labels) rfl ?_
  simp only [bv, len_ne', num_beq, VL, VB, BEq.rfl, V1, V2, V3, V4, V5, V6, V7, V8, V9, V10, VE, Nat.reduceBEq, Nat.reduceAdd, Nat.reduceSub, Nat.reduceMul, Nat.reduceLeDiff, Nat.reduceLT, Nat.reduceEqDiff, Int.reduceBEq, Int.reduceBNe, Int.reduceLT, Int.reduceLE, Int.reduceAdd, Int.reduceSub, Int.reduceMul]
  refine guardB.mk (fun h => ?_) (fun h => ?_)
  · have hc : canonC labels = false := by simpa using h
    have he : patER l labels = 2 := by rw [hpe, if_neg (fun h => by rw [hc] at h; cases h.2)]
    simp only [patOR, he, h2, h, if_false, Option.isSome_some, List.map_nil, len_ne', num_beq, VL, VB, BEq.rfl, V1, V2, V3, V4, V5, V6, V7, V8, V9, V10, VE, Nat.reduceBEq, Nat.reduceAdd, Nat.reduceSub, Nat.reduceMul, Nat.reduceLeDiff, Nat.reduceLT, Nat.reduceEqDiff, Int.reduceBEq, Int.reduceBNe, Int.reduceLT, Int.reduceLE, Int.reduceAdd, Int.reduceSub, Int.reduceMul]
  have hc : canonC labels = true := by simpa using h
  rw [if_pos ⟨hlen, hc⟩] at hpe
  simp only [h, len_ne', num_beq, VL, VB, BEq.rfl, V1, V2, V3, V4, V5, V6, V7, V8, V9, V10, VE, Nat.reduceBEq, Nat.reduceAdd, Nat.reduceSub, Nat.reduceMul, Nat.reduceLeDiff, Nat.reduceLT, Nat.reduceEqDiff, Int.reduceBEq, Int.reduceBNe, Int.reduceLT, Int.reduceLE, Int.reduceAdd, Int.reduceSub, Int.reduceMul]
  refine CallX.mk (allowed_ok l labels (headLen l) (by omega) fun c hc => (hm c hc).1) rfl ?_
  simp only [bv, len_ne', num_beq, VL, VB, BEq.rfl, V1, V2, V3, V4, V5, V6, V7, V8, V9, V10, VE, Nat.reduceBEq, Nat.reduceAdd, Nat.reduceSub, Nat.reduceMul, Nat.reduceLeDiff, Nat.reduceLT, Nat.reduceEqDiff, Int.reduceBEq, Int.reduceBNe, Int.reduceLT, Int.reduceLE, Int.reduceAdd, Int.reduceSub, Int.reduceMul]
  refine guardB.mk (fun h => ?_) (fun h => ?_)
  · have ha : allowedR l labels = false := by simpa using h
    have he : patER l labels = 8 := by rw [hpe, if_neg (by rw [ha]; simp)]
    simp only [patOR, he, h8, if_false, Option.isSome_some, List.map_nil, len_ne', num_beq, VL, VB, BEq.rfl, V1, V2, V3, V4, V5, V6, V7, V8, V9, V10, VE, Nat.reduceBEq, Nat.reduceAdd, Nat.reduceSub, Nat.reduceMul, Nat.reduceLeDiff, Nat.reduceLT, Nat.reduceEqDiff, Int.reduceBEq, Int.reduceBNe, Int.reduceLT, Int.reduceLE, Int.reduceAdd, Int.reduceSub, Int.reduceMul]
  have ha : allowedR l labels = true := by simpa using h
  rw [if_pos ha] at hpe
  have ho : patOR l labels = outR l labels l.length := by rw [patOR, if_pos hpe]
  simp only [len_ne', num_beq, VL, VB, BEq.rfl, V1, V2, V3, V4, V5, V6, V7, V8, V9, V10, VE, Nat.reduceBEq, Nat.reduceAdd, Nat.reduceSub, Nat.reduceMul, Nat.reduceLeDiff, Nat.reduceLT, Nat.reduceEqDiff, Int.reduceBEq, Int.reduceBNe, Int.reduceLT, Int.reduceLE, Int.reduceAdd, Int.reduceSub, Int.reduceMul]
  refine LoopVC.mk (Y := Nat) (fun k => k ≤ l.length) (fun k => ⟨[(0, .c (corrs l)), (1, .c (nums labels)), (7, .osl 1000 0), (8, .c (.sc (.int .i64 k)))], [(1000, .arr 52 0 ((outR l labels k).map Corr.enc))]⟩) (fun k => l.length - k) ⟨0, Enter.mk [(7, (1000, 52))] [] [] ?_, by omega⟩ ?_
  · simp only [outR, List.range_zero, List.filterMap_nil, List.map_nil, Option.isSome_some, len_ne', num_beq, VL, VB, BEq.rfl, V1, V2, V3, V4, V5, V6, V7, V8, V9, V10, VE, Nat.reduceBEq, Nat.reduceAdd, Nat.reduceSub, Nat.reduceMul, Nat.reduceLeDiff, Nat.reduceLT, Nat.reduceEqDiff, Int.reduceBEq, Int.reduceBNe, Int.reduceLT, Int.reduceLE, Int.reduceAdd, Int.reduceSub, Int.reduceMul]
    rfl
  intro k hk
  simp only [lt_nat, len_ne', num_beq, VL, VB, BEq.rfl, V1, V2, V3, V4, V5, V6, V7, V8, V9, V10, VE, Nat.reduceBEq, Nat.reduceAdd, Nat.reduceSub, Nat.reduceMul, Nat.reduceLeDiff, Nat.reduceLT, Nat.reduceEqDiff, Int.reduceBEq, Int.reduceBNe, Int.reduceLT, Int.reduceLE, Int.reduceAdd, Int.reduceSub, Int.reduceMul]
  refine guardB.mk (fun h => ?_) (fun h => ?_) <;> simp only [h, len_ne', num_beq, VL, VB, BEq.rfl, V1, V2, V3, V4, V5, V6, V7, V8, V9, V10, VE, Nat.reduceBEq, Nat.reduceAdd, Nat.reduceSub, Nat.reduceMul, Nat.reduceLeDiff, Nat.reduceLT, Nat.reduceEqDiff, Int.reduceBEq, Int.reduceBNe, Int.reduceLT, Int.reduceLE, Int.reduceAdd, Int.reduceSub, Int.reduceMul]
  · have hk' : k < l.length := by simpa using h
    have hkl : k < labels.length := by omega
    obtain ⟨c, hcd⟩ : ∃ c, l.getD k Corr.zero = c := ⟨_, rfl⟩
    have hcm : c ∈ l := by rw [← hcd]; exact getD_mem hk'
    have hcb := hb c hcm
    have hw := wrap_nat (k := k) (by omega)
    have hos := outR_succ l labels k
    have hol := outR_len l labels k
    simp only [getD_num, getD_corr, hkl, hk', hcd, num_def, corr_def, hw, len_ne', num_beq, VL, VB, BEq.rfl, V1, V2, V3, V4, V5, V6, V7, V8, V9, V10, VE, Nat.reduceBEq, Nat.reduceAdd, Nat.reduceSub, Nat.reduceMul, Nat.reduceLeDiff, Nat.reduceLT, Nat.reduceEqDiff, Int.reduceBEq, Int.reduceBNe, Int.reduceLT, Int.reduceLE, Int.reduceAdd, Int.reduceSub, Int.reduceMul]
    refine ⟨Int.natCast_nonneg k, guardB.mk (fun h3 => ?_) (fun h3 => ?_)⟩ <;> simp only [h3, getD_num, getD_corr, hkl, hk', hcd, num_def, corr_def, hw, len_ne', num_beq, VL, VB, BEq.rfl, V1, V2, V3, V4, V5, V6, V7, V8, V9, V10, VE, Nat.reduceBEq, Nat.reduceAdd, Nat.reduceSub, Nat.reduceMul, Nat.reduceLeDiff, Nat.reduceLT, Nat.reduceEqDiff, Int.reduceBEq, Int.reduceBNe, Int.reduceLT, Int.reduceLE, Int.reduceAdd, Int.reduceSub, Int.reduceMul]
    · rw [if_neg (by simpa using h3), List.append_nil] at hos
      refine ⟨k + 1, Enter.id ?_, by omega, by show l.length - (k + 1) < l.length - k; omega⟩
      simp only [hos, getD_num, getD_corr, hkl, hk', hcd, num_def, corr_def, hw, len_ne', num_beq, VL, VB, BEq.rfl, V1, V2, V3, V4, V5, V6, V7, V8, V9, V10, VE, Nat.reduceBEq, Nat.reduceAdd, Nat.reduceSub, Nat.reduceMul, Nat.reduceLeDiff, Nat.reduceLT, Nat.reduceEqDiff, Int.reduceBEq, Int.reduceBNe, Int.reduceLT, Int.reduceLE, Int.reduceAdd, Int.reduceSub, Int.reduceMul]
    · have hlk : labels.getD k 0 = (k : Int) := by simpa using h3
      rw [if_pos hlk] at hos
      refine ⟨Int.natCast_nonneg k, ⟨by omega, allLen_enc _⟩, Int.natCast_nonneg k, ?_⟩
      refine LoopVC.mk (Y := Nat) (fun i => k < i ∧ i ≤ l.length) (fun i => ⟨[(0, .c (corrs l)), (1, .c (nums labels)), (7, .osl 1000 0), (8, .c (.sc (.int .i64 k))), (9, .bp 9 0), (10, .c (.sc (.int .i64 i)))], [(1000, .arr 52 0 ((outR l labels k).map Corr.enc)), (9, .cells [.c (cells (rowTo' l labels k i).cells), .c (.sc (.int .i64 (rowTo' l labels k i).count))])]⟩) (fun i => l.length - i) ⟨k + 1, Enter.id ?_, by omega, by omega⟩ ?_
      · simp only [rowTo'_start l labels k (k + 1) (Nat.le_refl _), getD_num, getD_corr, hkl, hk', hcd, num_def, corr_def, hw, len_ne', num_beq, VL, VB, BEq.rfl, V1, V2, V3, V4, V5, V6, V7, V8, V9, V10, VE, Nat.reduceBEq, Nat.reduceAdd, Nat.reduceSub, Nat.reduceMul, Nat.reduceLeDiff, Nat.reduceLT, Nat.reduceEqDiff, Int.reduceBEq, Int.reduceBNe, Int.reduceLT, Int.reduceLE, Int.reduceAdd, Int.reduceSub, Int.reduceMul]
      rintro i ⟨hki, hi⟩
      obtain ⟨r1, r2, r3⟩ := rowTo'_ok (labels := labels) hm hk' i hi
      have hrs := rowTo'_succ l labels k i
      generalize hx : rowTo' l labels k i = x at r1 r2 r3 hrs ⊢
      simp only [lt_nat, getD_num, getD_corr, hkl, hk', hcd, num_def, corr_def, hw, len_ne', num_beq, VL, VB, BEq.rfl, V1, V2, V3, V4, V5, V6, V7, V8, V9, V10, VE, Nat.reduceBEq, Nat.reduceAdd, Nat.reduceSub, Nat.reduceMul, Nat.reduceLeDiff, Nat.reduceLT, Nat.reduceEqDiff, Int.reduceBEq, Int.reduceBNe, Int.reduceLT, Int.reduceLE, Int.reduceAdd, Int.reduceSub, Int.reduceMul]
      refine guardB.mk (fun h4 => ?_) (fun h4 => ?_) <;> simp only [h4, getD_num, getD_corr, hkl, hk', hcd, num_def, corr_def, hw, len_ne', num_beq, VL, VB, BEq.rfl, V1, V2, V3, V4, V5, V6, V7, V8, V9, V10, VE, Nat.reduceBEq, Nat.reduceAdd, Nat.reduceSub, Nat.reduceMul, Nat.reduceLeDiff, Nat.reduceLT, Nat.reduceEqDiff, Int.reduceBEq, Int.reduceBNe, Int.reduceLT, Int.reduceLE, Int.reduceAdd, Int.reduceSub, Int.reduceMul]
      · have hi' : i < l.length := by simpa using h4
        have hil : i < labels.length := by omega
        obtain ⟨d, hdd⟩ : ∃ d, l.getD i Corr.zero = d := ⟨_, rfl⟩
        have hdm : d ∈ l := by rw [← hdd]; exact getD_mem hi'
        have hdb := hb d hdm
        obtain ⟨d1, d2, d3⟩ := hm d hdm
        have hwi := wrap_nat (k := i) (by omega)
        have hsum : IntKind.i64.wrap (x.count + d.count) = x.count + d.count := wrap_of (by omega) (by omega)
        rw [hdd] at hrs
        simp only [hil, hi', hdd, hwi, hsum, int_beq, getD_num, getD_corr, hkl, hk', hcd, num_def, corr_def, hw, len_ne', num_beq, VL, VB, BEq.rfl, V1, V2, V3, V4, V5, V6, V7, V8, V9, V10, VE, Nat.reduceBEq, Nat.reduceAdd, Nat.reduceSub, Nat.reduceMul, Nat.reduceLeDiff, Nat.reduceLT, Nat.reduceEqDiff, Int.reduceBEq, Int.reduceBNe, Int.reduceLT, Int.reduceLE, Int.reduceAdd, Int.reduceSub, Int.reduceMul]
        refine ⟨Int.natCast_nonneg i, guardB.mk (fun h5 => ?_) (fun h5 => ?_)⟩ <;> simp only [h5, hil, hi', hdd, hwi, hsum, int_beq, getD_num, getD_corr, hkl, hk', hcd, num_def, corr_def, hw, len_ne', num_beq, VL, VB, BEq.rfl, V1, V2, V3, V4, V5, V6, V7, V8, V9, V10, VE, Nat.reduceBEq, Nat.reduceAdd, Nat.reduceSub, Nat.reduceMul, Nat.reduceLeDiff, Nat.reduceLT, Nat.reduceEqDiff, Int.reduceBEq, Int.reduceBNe, Int.reduceLT, Int.reduceLE, Int.reduceAdd, Int.reduceSub, Int.reduceMul]
        · rw [if_pos ⟨hki, by simpa using h5⟩] at hrs
          refine ⟨Int.natCast_nonneg i, ?_⟩
          refine CallX.mk (rjoin_ok x.cells d.cells (by omega) (by omega)) rfl ?_
          simp only [hil, hi', hdd, hwi, hsum, int_beq, getD_num, getD_corr, hkl, hk', hcd, num_def, corr_def, hw, len_ne', num_beq, VL, VB, BEq.rfl, V1, V2, V3, V4, V5, V6, V7, V8, V9, V10, VE, Nat.reduceBEq, Nat.reduceAdd, Nat.reduceSub, Nat.reduceMul, Nat.reduceLeDiff, Nat.reduceLT, Nat.reduceEqDiff, Int.reduceBEq, Int.reduceBNe, Int.reduceLT, Int.reduceLE, Int.reduceAdd, Int.reduceSub, Int.reduceMul]
          refine ⟨Int.natCast_nonneg i, i + 1, Enter.mk [] [76] [] ?_, ⟨by omega, by omega⟩, by show l.length - (i + 1) < l.length - i; omega⟩
          simp only [hrs, addR, hil, hi', hdd, hwi, hsum, int_beq, getD_num, getD_corr, hkl, hk', hcd, num_def, corr_def, hw, len_ne', num_beq, VL, VB, BEq.rfl, V1, V2, V3, V4, V5, V6, V7, V8, V9, V10, VE, Nat.reduceBEq, Nat.reduceAdd, Nat.reduceSub, Nat.reduceMul, Nat.reduceLeDiff, Nat.reduceLT, Nat.reduceEqDiff, Int.reduceBEq, Int.reduceBNe, Int.reduceLT, Int.reduceLE, Int.reduceAdd, Int.reduceSub, Int.reduceMul]
        · rw [if_neg (fun hh => by have := hh.2; simp at h5; exact h5 this)] at hrs
          refine ⟨i + 1, Enter.id ?_, ⟨by omega, by omega⟩, by show l.length - (i + 1) < l.length - i; omega⟩
          simp only [hrs, hil, hi', hdd, hwi, hsum, int_beq, getD_num, getD_corr, hkl, hk', hcd, num_def, corr_def, hw, len_ne', num_beq, VL, VB, BEq.rfl, V1, V2, V3, V4, V5, V6, V7, V8, V9, V10, VE, Nat.reduceBEq, Nat.reduceAdd, Nat.reduceSub, Nat.reduceMul, Nat.reduceLeDiff, Nat.reduceLT, Nat.reduceEqDiff, Int.reduceBEq, Int.reduceBNe, Int.reduceLT, Int.reduceLE, Int.reduceAdd, Int.reduceSub, Int.reduceMul]
      · have hie : i = l.length := by
          have : ¬ i < l.length := by simpa using h4
          omega
        rw [hie] at hx
        rw [hx] at hos
        refine ⟨⟨by omega, allLen_one rfl⟩, k + 1, Enter.id ?_, by omega, by show l.length - (k + 1) < l.length - k; omega⟩
        simp only [hos, List.map_append, getD_num, getD_corr, hkl, hk', hcd, num_def, corr_def, hw, len_ne', num_beq, VL, VB, BEq.rfl, V1, V2, V3, V4, V5, V6, V7, V8, V9, V10, VE, Nat.reduceBEq, Nat.reduceAdd, Nat.reduceSub, Nat.reduceMul, Nat.reduceLeDiff, Nat.reduceLT, Nat.reduceEqDiff, Int.reduceBEq, Int.reduceBNe, Int.reduceLT, Int.reduceLE, Int.reduceAdd, Int.reduceSub, Int.reduceMul]
  · have hke : k = l.length := by
      have : ¬ k < l.length := by simpa using h
      omega
    subst hke
    simp only [ho, hpe, len_ne', num_beq, VL, VB, BEq.rfl, V1, V2, V3, V4, V5, V6, V7, V8, V9, V10, VE, Nat.reduceBEq, Nat.reduceAdd, Nat.reduceSub, Nat.reduceMul, Nat.reduceLeDiff, Nat.reduceLT, Nat.reduceEqDiff, Int.reduceBEq, Int.reduceBNe, Int.reduceLT, Int.reduceLE, Int.reduceAdd, Int.reduceSub, Int.reduceMul]

end Go.Cp
end

section
set_option linter.unusedVariables false
set_option linter.unusedSimpArgs false
set_option maxHeartbeats 8000000
set_option maxRecDepth 10000
namespace Go.Cp
open Go Go.Proofs Go.Vx

def someTo (l : List Corr) (x : List Cell) (k : Nat) : List (List Cell) := ((l.take k).filter fun c => fitR c.cells x).map Corr.cells
theorem someTo_succ {l : List Corr} {x : List Cell} {k : Nat} (h : k < l.length) : someTo l x (k + 1) = someTo l x k ++ (if fitR (l.getD k Corr.zero).cells x then [(l.getD k Corr.zero).cells] else []) := by
  rw [someTo, take_next Corr.zero h, List.filter_append, List.map_append, someTo]
  congr 1
  generalize l.getD k Corr.zero = c
  cases hf : fitR c.cells x <;> simp [hf]
def atC (js : List (List Cell)) (i k : Nat) : Cell := (js.getD i []).getD k Cell.zero
def cellTo (js : List (List Cell)) (k i : Nat) : Cell := (List.range i).foldl (fun c j => if atC js j k = c then c else Cell.zero) (atC js 0 k)
theorem cellTo_succ (js : List (List Cell)) (k i : Nat) : cellTo js k (i + 1) = if atC js i k = cellTo js k i then cellTo js k i else Cell.zero := by
  rw [cellTo, List.range_succ, List.foldl_append]; rfl
def cellR (js : List (List Cell)) (x : List Cell) (k : Nat) : Cell := if (x.getD k Cell.zero).kind = 0 then cellTo js k js.length else x.getD k Cell.zero
def cellsR (js : List (List Cell)) (x : List Cell) (k : Nat) : List Cell := (List.range k).map (cellR js x)
theorem cellsR_succ (js : List (List Cell)) (x : List Cell) (k : Nat) : cellsR js x (k + 1) = cellsR js x k ++ [cellR js x k] := by
  simp only [cellsR, List.range_succ, List.map_append, List.map_cons, List.map_nil]
def predER (l : List Corr) (x : List Cell) : Int := if 256 < l.length then 12 else if listR (l ++ [⟨x, 0⟩]) = true then (if (someTo l x l.length).length = 0 then 5 else 0) else 2
def predOR (l : List Corr) (x : List Cell) : List Cell := if predER l x = 0 then cellsR (someTo l x l.length) x x.length else []
theorem someTo_len {l : List Corr} {x : List Cell} {m : Nat} (hm : ∀ c ∈ l, c.cells.length = m) (k : Nat) : ∀ j ∈ someTo l x k, j.length = m := fun j hj => by
  obtain ⟨c, hc, rfl⟩ := List.mem_map.1 hj
  exact hm c (List.mem_of_mem_take (List.mem_filter.1 hc).1)
theorem someTo_le (l : List Corr) (x : List Cell) (k : Nat) : (someTo l x k).length ≤ k := by
  rw [someTo, List.length_map]
  refine Nat.le_trans (List.length_filter_le _ _) ?_
  rw [List.length_take]; omega

theorem allLen_corr (l : List Corr) : AllLen 2 (l.map Corr.enc) := fun y hy => by
  obtain ⟨c, _, rfl⟩ := List.mem_map.1 hy
  rfl
theorem cell_dec (u v : Cell) : (decide (u.kind = v.kind) && (decide (u.plus = v.plus) && decide (u.minus = v.minus))) = decide (u = v) := cell_beq u v

theorem rpredict_ok (l : List Corr) (x : List Cell) (hbx : x.length * 16 ≤ 140737488355328) : Ok Try.prog E 31 [.c (corrs l), .c (cells x)] (.tp [.fr 57 ((predOR l x).map Cell.enc), nv (predER l x)]) := by
  refine ok_of_vc (L := []) (ts := [4, 5]) envOK mixed Try.func31 rfl (by kernel_rfl) rfl (by kernel_rfl) rfl fun hl => ?_
  have hg : decide ((256 : Int) < (l.length : Int)) = decide (256 < l.length) := lt_nat (a := 256)
  have h2 : ¬ (2 : Int) = 0 := by omega
  have h5 : ¬ (5 : Int) = 0 := by omega
  have h12 : ¬ (12 : Int) = 0 := by omega
  simp only [Try.f31, nv, hg, VL, VB, BEq.rfl, V1, V2, V3, V4, V5, V6, V7, V8, V9, V10, VE, Nat.reduceBEq, Nat.reduceAdd, Nat.reduceSub, Nat.reduceMul, Nat.reduceLeDiff, Nat.reduceLT, Nat.reduceEqDiff, Int.reduceBEq, Int.reduceBNe, Int.reduceLT, Int.reduceLE, Int.reduceAdd, Int.reduceSub, Int.reduceMul]
  refine guardB.mk (fun h => ?_) (fun h => ?_)
  · have he : predER l x = 12 := by rw [predER, if_pos (by simpa using h)]
    simp only [predOR, he, h12, if_false, Option.isSome_some, List.map_nil, hg, VL, VB, BEq.rfl, V1, V2, V3, V4, V5, V6, V7, V8, V9, V10, VE, Nat.reduceBEq, Nat.reduceAdd, Nat.reduceSub, Nat.reduceMul, Nat.reduceLeDiff, Nat.reduceLT, Nat.reduceEqDiff, Int.reduceBEq, Int.reduceBNe, Int.reduceLT, Int.reduceLE, Int.reduceAdd, Int.reduceSub, Int.reduceMul]
  have hn : ¬ 256 < l.length := by simpa using h
  have hpe : predER l x = if listR (l ++ [⟨x, 0⟩]) = true then (if (someTo l x l.length).length = 0 then 5 else 0) else 2 := by rw [predER, if_neg hn]
  simp only [hg, VL, VB, BEq.rfl, V1, V2, V3, V4, V5, V6, V7, V8, V9, V10, VE, Nat.reduceBEq, Nat.reduceAdd, Nat.reduceSub, Nat.reduceMul, Nat.reduceLeDiff, Nat.reduceLT, Nat.reduceEqDiff, Int.reduceBEq, Int.reduceBNe, Int.reduceLT, Int.reduceLE, Int.reduceAdd, Int.reduceSub, Int.reduceMul]
  refine ⟨⟨by omega, allLen_corr l⟩, ⟨by omega, allLen_one rfl⟩, ?_⟩
  refine CallX.mk (by have := list_ok (l ++ [⟨x, 0⟩]); rw [corrs, List.map_append] at this; exact this) rfl ?_
  simp only [bv, hg, VL, VB, BEq.rfl, V1, V2, V3, V4, V5, V6, V7, V8, V9, V10, VE, Nat.reduceBEq, Nat.reduceAdd, Nat.reduceSub, Nat.reduceMul, Nat.reduceLeDiff, Nat.reduceLT, Nat.reduceEqDiff, Int.reduceBEq, Int.reduceBNe, Int.reduceLT, Int.reduceLE, Int.reduceAdd, Int.reduceSub, Int.reduceMul]
  refine guardB.mk (fun h => ?_) (fun h => ?_)
  · have hb : listR (l ++ [⟨x, 0⟩]) = false := by simpa using h
    have he : predER l x = 2 := by rw [hpe, if_neg (by rw [hb]; simp)]
    simp only [predOR, he, h2, if_false, Option.isSome_some, List.map_nil, hg, VL, VB, BEq.rfl, V1, V2, V3, V4, V5, V6, V7, V8, V9, V10, VE, Nat.reduceBEq, Nat.reduceAdd, Nat.reduceSub, Nat.reduceMul, Nat.reduceLeDiff, Nat.reduceLT, Nat.reduceEqDiff, Int.reduceBEq, Int.reduceBNe, Int.reduceLT, Int.reduceLE, Int.reduceAdd, Int.reduceSub, Int.reduceMul]
  have hb : listR (l ++ [⟨x, 0⟩]) = true := by simpa using h
  rw [if_pos hb] at hpe
  have hm : ∀ c ∈ l, c.cells.length = x.length := fun c hc => by
    have hh : ∀ d ∈ l ++ [⟨x, 0⟩], d.cells.length = headLen (l ++ [⟨x, 0⟩]) := fun d hd => by
      have := List.all_eq_true.1 hb d hd
      simp only [corrD, Bool.and_eq_true, decide_eq_true_eq] at this
      exact this.2.2.2
    rw [hh c (List.mem_append_left _ hc), ← hh ⟨x, 0⟩ (List.mem_append_right _ (List.mem_cons_self ..))]
  simp only [hg, VL, VB, BEq.rfl, V1, V2, V3, V4, V5, V6, V7, V8, V9, V10, VE, Nat.reduceBEq, Nat.reduceAdd, Nat.reduceSub, Nat.reduceMul, Nat.reduceLeDiff, Nat.reduceLT, Nat.reduceEqDiff, Int.reduceBEq, Int.reduceBNe, Int.reduceLT, Int.reduceLE, Int.reduceAdd, Int.reduceSub, Int.reduceMul]
  refine LoopVC.mk (Y := Nat) (fun k => k ≤ l.length) (fun k => ⟨[(0, .c (corrs l)), (1, .c (cells x)), (6, .osl 1000 0), (7, .c (.sc (.int .i64 k)))], [(1000, .arr 22 0 ((someTo l x k).map rowD))]⟩) (fun k => l.length - k) ⟨0, Enter.mk [(6, (1000, 22))] [] [] ?_, by omega⟩ ?_
  · simp only [someTo, List.take_zero, List.filter_nil, List.map_nil, Option.isSome_some, hg, VL, VB, BEq.rfl, V1, V2, V3, V4, V5, V6, V7, V8, V9, V10, VE, Nat.reduceBEq, Nat.reduceAdd, Nat.reduceSub, Nat.reduceMul, Nat.reduceLeDiff, Nat.reduceLT, Nat.reduceEqDiff, Int.reduceBEq, Int.reduceBNe, Int.reduceLT, Int.reduceLE, Int.reduceAdd, Int.reduceSub, Int.reduceMul]
    rfl
  intro k hk
  simp only [lt_nat, hg, VL, VB, BEq.rfl, V1, V2, V3, V4, V5, V6, V7, V8, V9, V10, VE, Nat.reduceBEq, Nat.reduceAdd, Nat.reduceSub, Nat.reduceMul, Nat.reduceLeDiff, Nat.reduceLT, Nat.reduceEqDiff, Int.reduceBEq, Int.reduceBNe, Int.reduceLT, Int.reduceLE, Int.reduceAdd, Int.reduceSub, Int.reduceMul]
  refine guardB.mk (fun h => ?_) (fun h => ?_) <;> simp only [h, hg, VL, VB, BEq.rfl, V1, V2, V3, V4, V5, V6, V7, V8, V9, V10, VE, Nat.reduceBEq, Nat.reduceAdd, Nat.reduceSub, Nat.reduceMul, Nat.reduceLeDiff, Nat.reduceLT, Nat.reduceEqDiff, Int.reduceBEq, Int.reduceBNe, Int.reduceLT, Int.reduceLE, Int.reduceAdd, Int.reduceSub, Int.reduceMul]
  · have hk' : k < l.length := by simpa using h
    obtain ⟨c, hcd⟩ : ∃ c, l.getD k Corr.zero = c := ⟨_, rfl⟩
    have hcl := hm c (by rw [← hcd]; exact getD_mem hk')
    have hss := someTo_succ (x := x) hk'
    rw [hcd] at hss
    have hle := someTo_le l x k
    have hw := wrap_nat (k := k) (by omega)
    simp only [getD_corr, hk', hcd, corr_def, hw, hg, VL, VB, BEq.rfl, V1, V2, V3, V4, V5, V6, V7, V8, V9, V10, VE, Nat.reduceBEq, Nat.reduceAdd, Nat.reduceSub, Nat.reduceMul, Nat.reduceLeDiff, Nat.reduceLT, Nat.reduceEqDiff, Int.reduceBEq, Int.reduceBNe, Int.reduceLT, Int.reduceLE, Int.reduceAdd, Int.reduceSub, Int.reduceMul]
    refine ⟨Int.natCast_nonneg k, ?_⟩
    refine CallX.mk (rfit_ok c.cells x (by omega)) rfl ?_
    simp only [getD_corr, hk', hcd, corr_def, hw, hg, VL, VB, BEq.rfl, V1, V2, V3, V4, V5, V6, V7, V8, V9, V10, VE, Nat.reduceBEq, Nat.reduceAdd, Nat.reduceSub, Nat.reduceMul, Nat.reduceLeDiff, Nat.reduceLT, Nat.reduceEqDiff, Int.reduceBEq, Int.reduceBNe, Int.reduceLT, Int.reduceLE, Int.reduceAdd, Int.reduceSub, Int.reduceMul]
    refine guardB.mk (fun h3 => ?_) (fun h3 => ?_) <;> simp only [h3, if_true, Bool.false_eq_true, if_false, List.append_nil] at hss <;> simp only [getD_corr, hk', hcd, corr_def, hw, hg, VL, VB, BEq.rfl, V1, V2, V3, V4, V5, V6, V7, V8, V9, V10, VE, Nat.reduceBEq, Nat.reduceAdd, Nat.reduceSub, Nat.reduceMul, Nat.reduceLeDiff, Nat.reduceLT, Nat.reduceEqDiff, Int.reduceBEq, Int.reduceBNe, Int.reduceLT, Int.reduceLE, Int.reduceAdd, Int.reduceSub, Int.reduceMul]
    · refine ⟨Int.natCast_nonneg k, ⟨by omega, allLen_one rfl⟩, k + 1, Enter.id ?_, by omega, by show l.length - (k + 1) < l.length - k; omega⟩
      simp only [hss, List.map_append, row_def, getD_corr, hk', hcd, corr_def, hw, hg, VL, VB, BEq.rfl, V1, V2, V3, V4, V5, V6, V7, V8, V9, V10, VE, Nat.reduceBEq, Nat.reduceAdd, Nat.reduceSub, Nat.reduceMul, Nat.reduceLeDiff, Nat.reduceLT, Nat.reduceEqDiff, Int.reduceBEq, Int.reduceBNe, Int.reduceLT, Int.reduceLE, Int.reduceAdd, Int.reduceSub, Int.reduceMul]
    · refine ⟨k + 1, Enter.id ?_, by omega, by show l.length - (k + 1) < l.length - k; omega⟩
      simp only [hss, getD_corr, hk', hcd, corr_def, hw, hg, VL, VB, BEq.rfl, V1, V2, V3, V4, V5, V6, V7, V8, V9, V10, VE, Nat.reduceBEq, Nat.reduceAdd, Nat.reduceSub, Nat.reduceMul, Nat.reduceLeDiff, Nat.reduceLT, Nat.reduceEqDiff, Int.reduceBEq, Int.reduceBNe, Int.reduceLT, Int.reduceLE, Int.reduceAdd, Int.reduceSub, Int.reduceMul]
  have hke : k = l.length := by
    have : ¬ k < l.length := by simpa using h
    omega
  subst hke
  have hsl := someTo_len hm l.length (x := x)
  have hsle := someTo_le l x l.length
  have hpo : predOR l x = if predER l x = 0 then cellsR (someTo l x l.length) x x.length else [] := rfl
  generalize someTo l x l.length = js at hsl hsle hpe hpo ⊢
  have hj0 : ((js.length : Int) == 0) = decide (js.length = 0) := by
    rw [int_beq]; congr 1; exact propext ⟨fun h => by omega, fun h => by omega⟩
  simp only [hj0, hg, VL, VB, BEq.rfl, V1, V2, V3, V4, V5, V6, V7, V8, V9, V10, VE, Nat.reduceBEq, Nat.reduceAdd, Nat.reduceSub, Nat.reduceMul, Nat.reduceLeDiff, Nat.reduceLT, Nat.reduceEqDiff, Int.reduceBEq, Int.reduceBNe, Int.reduceLT, Int.reduceLE, Int.reduceAdd, Int.reduceSub, Int.reduceMul]
  refine guardB.mk (fun h => ?_) (fun h => ?_) <;> simp only [hg, VL, VB, BEq.rfl, V1, V2, V3, V4, V5, V6, V7, V8, V9, V10, VE, Nat.reduceBEq, Nat.reduceAdd, Nat.reduceSub, Nat.reduceMul, Nat.reduceLeDiff, Nat.reduceLT, Nat.reduceEqDiff, Int.reduceBEq, Int.reduceBNe, Int.reduceLT, Int.reduceLE, Int.reduceAdd, Int.reduceSub, Int.reduceMul]
  · have he : predER l x = 5 := by rw [hpe, if_pos (by simpa using h)]
    simp only [hpo, he, h5, if_false, Option.isSome_some, List.map_nil, hg, VL, VB, BEq.rfl, V1, V2, V3, V4, V5, V6, V7, V8, V9, V10, VE, Nat.reduceBEq, Nat.reduceAdd, Nat.reduceSub, Nat.reduceMul, Nat.reduceLeDiff, Nat.reduceLT, Nat.reduceEqDiff, Int.reduceBEq, Int.reduceBNe, Int.reduceLT, Int.reduceLE, Int.reduceAdd, Int.reduceSub, Int.reduceMul]
  have hjn : 0 < js.length := by
    have : ¬ js.length = 0 := by simpa using h
    omega
  have he : predER l x = 0 := by rw [hpe, if_neg (by omega)]
  rw [he, if_pos rfl] at hpo
  refine LoopVC.mk (Y := Nat) (fun k => k ≤ x.length) (fun k => ⟨[(1, .c (cells x)), (6, .osl 1000 0), (8, .osl 1001 0), (9, .c (.sc (.int .i64 k)))], [(1000, .arr 22 0 (js.map rowD)), (1001, .arr 57 0 ((cellsR js x k).map Cell.enc))]⟩) (fun k => x.length - k) ⟨0, Enter.mk [(8, (1001, 57))] [] [] ?_, by omega⟩ ?_
  · simp only [cellsR, List.range_zero, List.map_nil, Option.isSome_some, hg, VL, VB, BEq.rfl, V1, V2, V3, V4, V5, V6, V7, V8, V9, V10, VE, Nat.reduceBEq, Nat.reduceAdd, Nat.reduceSub, Nat.reduceMul, Nat.reduceLeDiff, Nat.reduceLT, Nat.reduceEqDiff, Int.reduceBEq, Int.reduceBNe, Int.reduceLT, Int.reduceLE, Int.reduceAdd, Int.reduceSub, Int.reduceMul]
    rfl
  intro k hk
  simp only [lt_nat, hg, VL, VB, BEq.rfl, V1, V2, V3, V4, V5, V6, V7, V8, V9, V10, VE, Nat.reduceBEq, Nat.reduceAdd, Nat.reduceSub, Nat.reduceMul, Nat.reduceLeDiff, Nat.reduceLT, Nat.reduceEqDiff, Int.reduceBEq, Int.reduceBNe, Int.reduceLT, Int.reduceLE, Int.reduceAdd, Int.reduceSub, Int.reduceMul]
  refine guardB.mk (fun h => ?_) (fun h => ?_) <;> simp only [h, hg, VL, VB, BEq.rfl, V1, V2, V3, V4, V5, V6, V7, V8, V9, V10, VE, Nat.reduceBEq, Nat.reduceAdd, Nat.reduceSub, Nat.reduceMul, Nat.reduceLeDiff, Nat.reduceLT, Nat.reduceEqDiff, Int.reduceBEq, Int.reduceBNe, Int.reduceLT, Int.reduceLE, Int.reduceAdd, Int.reduceSub, Int.reduceMul]
  · have hk' : k < x.length := by simpa using h
    obtain ⟨c, hcd⟩ : ∃ c, x.getD k Cell.zero = c := ⟨_, rfl⟩
    have hcs := cellsR_succ js x k
    rw [cellR, hcd] at hcs
    have hcle : (cellsR js x k).length = k := by rw [cellsR, List.length_map, List.length_range]
    have hw := wrap_nat (k := k) (by omega)
    simp only [getD_enc, hk', hcd, enc_def, int_beq, hcle, hw, hg, VL, VB, BEq.rfl, V1, V2, V3, V4, V5, V6, V7, V8, V9, V10, VE, Nat.reduceBEq, Nat.reduceAdd, Nat.reduceSub, Nat.reduceMul, Nat.reduceLeDiff, Nat.reduceLT, Nat.reduceEqDiff, Int.reduceBEq, Int.reduceBNe, Int.reduceLT, Int.reduceLE, Int.reduceAdd, Int.reduceSub, Int.reduceMul]
    refine ⟨Int.natCast_nonneg k, ?_⟩
    refine guardB.mk (fun h3 => ?_) (fun h3 => ?_) <;> simp only [getD_enc, hk', hcd, enc_def, int_beq, hcle, hw, hg, VL, VB, BEq.rfl, V1, V2, V3, V4, V5, V6, V7, V8, V9, V10, VE, Nat.reduceBEq, Nat.reduceAdd, Nat.reduceSub, Nat.reduceMul, Nat.reduceLeDiff, Nat.reduceLT, Nat.reduceEqDiff, Int.reduceBEq, Int.reduceBNe, Int.reduceLT, Int.reduceLE, Int.reduceAdd, Int.reduceSub, Int.reduceMul]
    · rw [if_pos (by simpa using h3)] at hcs
      have hz : (0 : Int).toNat = 0 := rfl
      have hf := hsl (js.getD 0 []) (getD_mem hjn)
      have hkf : k < (js.getD 0 []).length := by omega
      simp only [getD_row, row_def, hjn, hz, hkf, getD_enc, hk', hcd, enc_def, int_beq, hcle, hw, hg, VL, VB, BEq.rfl, V1, V2, V3, V4, V5, V6, V7, V8, V9, V10, VE, Nat.reduceBEq, Nat.reduceAdd, Nat.reduceSub, Nat.reduceMul, Nat.reduceLeDiff, Nat.reduceLT, Nat.reduceEqDiff, Int.reduceBEq, Int.reduceBNe, Int.reduceLT, Int.reduceLE, Int.reduceAdd, Int.reduceSub, Int.reduceMul]
      refine ⟨Int.natCast_nonneg k, ?_⟩
      refine LoopVC.mk (Y := Nat) (fun i => i ≤ js.length) (fun i => ⟨[(1, .c (cells x)), (6, .osl 1000 0), (8, .osl 1001 0), (9, .c (.sc (.int .i64 k))), (10, .bp 10 0), (11, .c (.sc (.int .i64 i)))], [(1000, .arr 22 0 (js.map rowD)), (1001, .arr 57 0 ((cellsR js x k).map Cell.enc)), (10, .cells [.c (.sc (.int .i64 (cellTo js k i).kind)), .c (.sc (.int .u32 (cellTo js k i).plus)), .c (.sc (.int .u32 (cellTo js k i).minus))])]⟩) (fun i => js.length - i) ⟨0, Enter.id ?_, by omega⟩ ?_
      · simp only [cellTo, List.range_zero, List.foldl_nil, atC, getD_enc, hk', hcd, enc_def, int_beq, hcle, hw, hg, VL, VB, BEq.rfl, V1, V2, V3, V4, V5, V6, V7, V8, V9, V10, VE, Nat.reduceBEq, Nat.reduceAdd, Nat.reduceSub, Nat.reduceMul, Nat.reduceLeDiff, Nat.reduceLT, Nat.reduceEqDiff, Int.reduceBEq, Int.reduceBNe, Int.reduceLT, Int.reduceLE, Int.reduceAdd, Int.reduceSub, Int.reduceMul]
        rfl
      intro i hi
      have hts := cellTo_succ js k i
      generalize hc2 : cellTo js k i = c2 at hts ⊢
      simp only [lt_nat, getD_enc, hk', hcd, enc_def, int_beq, hcle, hw, hg, VL, VB, BEq.rfl, V1, V2, V3, V4, V5, V6, V7, V8, V9, V10, VE, Nat.reduceBEq, Nat.reduceAdd, Nat.reduceSub, Nat.reduceMul, Nat.reduceLeDiff, Nat.reduceLT, Nat.reduceEqDiff, Int.reduceBEq, Int.reduceBNe, Int.reduceLT, Int.reduceLE, Int.reduceAdd, Int.reduceSub, Int.reduceMul]
      refine guardB.mk (fun h4 => ?_) (fun h4 => ?_) <;> simp only [h4, getD_enc, hk', hcd, enc_def, int_beq, hcle, hw, hg, VL, VB, BEq.rfl, V1, V2, V3, V4, V5, V6, V7, V8, V9, V10, VE, Nat.reduceBEq, Nat.reduceAdd, Nat.reduceSub, Nat.reduceMul, Nat.reduceLeDiff, Nat.reduceLT, Nat.reduceEqDiff, Int.reduceBEq, Int.reduceBNe, Int.reduceLT, Int.reduceLE, Int.reduceAdd, Int.reduceSub, Int.reduceMul]
      · have hi' : i < js.length := by simpa using h4
        have hfi := hsl (js.getD i []) (getD_mem hi')
        have hkfi : k < (js.getD i []).length := by omega
        have hwi := wrap_nat (k := i) (by omega)
        obtain ⟨u, hu⟩ : ∃ u, (js.getD i []).getD k Cell.zero = u := ⟨_, rfl⟩
        rw [atC, hu] at hts
        simp only [getD_row, row_def, hi', hkfi, hu, cell_dec, hwi, getD_enc, hk', hcd, enc_def, int_beq, hcle, hw, hg, VL, VB, BEq.rfl, V1, V2, V3, V4, V5, V6, V7, V8, V9, V10, VE, Nat.reduceBEq, Nat.reduceAdd, Nat.reduceSub, Nat.reduceMul, Nat.reduceLeDiff, Nat.reduceLT, Nat.reduceEqDiff, Int.reduceBEq, Int.reduceBNe, Int.reduceLT, Int.reduceLE, Int.reduceAdd, Int.reduceSub, Int.reduceMul]
        refine ⟨Int.natCast_nonneg i, Int.natCast_nonneg k, guardB.mk (fun h5 => ?_) (fun h5 => ?_)⟩ <;> simp only [h5, getD_row, row_def, hi', hkfi, hu, cell_dec, hwi, getD_enc, hk', hcd, enc_def, int_beq, hcle, hw, hg, VL, VB, BEq.rfl, V1, V2, V3, V4, V5, V6, V7, V8, V9, V10, VE, Nat.reduceBEq, Nat.reduceAdd, Nat.reduceSub, Nat.reduceMul, Nat.reduceLeDiff, Nat.reduceLT, Nat.reduceEqDiff, Int.reduceBEq, Int.reduceBNe, Int.reduceLT, Int.reduceLE, Int.reduceAdd, Int.reduceSub, Int.reduceMul]
        · rw [if_neg (by simpa using h5)] at hts
          refine ⟨i + 1, Enter.id ?_, by omega, by show js.length - (i + 1) < js.length - i; omega⟩
          simp only [hts, getD_row, row_def, hi', hkfi, hu, cell_dec, hwi, getD_enc, hk', hcd, enc_def, int_beq, hcle, hw, hg, VL, VB, BEq.rfl, V1, V2, V3, V4, V5, V6, V7, V8, V9, V10, VE, Nat.reduceBEq, Nat.reduceAdd, Nat.reduceSub, Nat.reduceMul, Nat.reduceLeDiff, Nat.reduceLT, Nat.reduceEqDiff, Int.reduceBEq, Int.reduceBNe, Int.reduceLT, Int.reduceLE, Int.reduceAdd, Int.reduceSub, Int.reduceMul]
          exact ⟨rfl, rfl, rfl⟩
        · rw [if_pos (by simpa using h5)] at hts
          refine ⟨i + 1, Enter.id ?_, by omega, by show js.length - (i + 1) < js.length - i; omega⟩
          simp only [hts, getD_row, row_def, hi', hkfi, hu, cell_dec, hwi, getD_enc, hk', hcd, enc_def, int_beq, hcle, hw, hg, VL, VB, BEq.rfl, V1, V2, V3, V4, V5, V6, V7, V8, V9, V10, VE, Nat.reduceBEq, Nat.reduceAdd, Nat.reduceSub, Nat.reduceMul, Nat.reduceLeDiff, Nat.reduceLT, Nat.reduceEqDiff, Int.reduceBEq, Int.reduceBNe, Int.reduceLT, Int.reduceLE, Int.reduceAdd, Int.reduceSub, Int.reduceMul]
      · have hie : i = js.length := by
          have : ¬ i < js.length := by simpa using h4
          omega
        rw [hie] at hc2
        rw [hc2] at hcs
        refine ⟨⟨by omega, allLen_one rfl⟩, k + 1, Enter.id ?_, by omega, by show x.length - (k + 1) < x.length - k; omega⟩
        simp only [hcs, List.map_append, getD_enc, hk', hcd, enc_def, int_beq, hcle, hw, hg, VL, VB, BEq.rfl, V1, V2, V3, V4, V5, V6, V7, V8, V9, V10, VE, Nat.reduceBEq, Nat.reduceAdd, Nat.reduceSub, Nat.reduceMul, Nat.reduceLeDiff, Nat.reduceLT, Nat.reduceEqDiff, Int.reduceBEq, Int.reduceBNe, Int.reduceLT, Int.reduceLE, Int.reduceAdd, Int.reduceSub, Int.reduceMul]
    · rw [if_neg (by simpa using h3)] at hcs
      refine ⟨⟨by omega, allLen_one rfl⟩, k + 1, Enter.id ?_, by omega, by show x.length - (k + 1) < x.length - k; omega⟩
      simp only [hcs, List.map_append, getD_enc, hk', hcd, enc_def, int_beq, hcle, hw, hg, VL, VB, BEq.rfl, V1, V2, V3, V4, V5, V6, V7, V8, V9, V10, VE, Nat.reduceBEq, Nat.reduceAdd, Nat.reduceSub, Nat.reduceMul, Nat.reduceLeDiff, Nat.reduceLT, Nat.reduceEqDiff, Int.reduceBEq, Int.reduceBNe, Int.reduceLT, Int.reduceLE, Int.reduceAdd, Int.reduceSub, Int.reduceMul]
  · have hke : k = x.length := by
      have : ¬ k < x.length := by simpa using h
      omega
    subst hke
    simp only [hpo, he, hg, VL, VB, BEq.rfl, V1, V2, V3, V4, V5, V6, V7, V8, V9, V10, VE, Nat.reduceBEq, Nat.reduceAdd, Nat.reduceSub, Nat.reduceMul, Nat.reduceLeDiff, Nat.reduceLT, Nat.reduceEqDiff, Int.reduceBEq, Int.reduceBNe, Int.reduceLT, Int.reduceLE, Int.reduceAdd, Int.reduceSub, Int.reduceMul]

end Go.Cp
end

section
set_option linter.unusedVariables false
set_option linter.unusedSimpArgs false
set_option maxHeartbeats 8000000
set_option maxRecDepth 10000
namespace Go.Cp
open Go Go.Proofs Go.Vx

def badR (l : List Corr) (ls : List Int) (i k j : Nat) : Bool := decide (ls.getD j 0 = (k : Int)) && !fitR (cellsAt l i) (cellsAt l j)
def goodTo (l : List Corr) (ls : List Int) (i k n : Nat) : Bool := (List.range n).all fun j => !badR l ls i k j
theorem goodTo_succ (l : List Corr) (ls : List Int) (i k n : Nat) : goodTo l ls i k (n + 1) = (goodTo l ls i k n && !badR l ls i k n) := by
  simp only [goodTo, List.range_succ, List.all_append, List.all_cons, List.all_nil, Bool.and_true]
def fitsR (l : List Corr) (ls : List Int) (i k : Nat) : Bool := decide (ls.getD k 0 = (k : Int)) && goodTo l ls i k i
def refK (l : List Corr) (ls : List Int) (i : Nat) : Nat := scan (fitsR l ls i) i 0
def refAt (l : List Corr) : Nat → List Int
  | 0 => []
  | i + 1 => refAt l i ++ [(refK l (refAt l i) i : Int)]
theorem refAt_len (l : List Corr) : ∀ i, (refAt l i).length = i
  | 0 => rfl
  | i + 1 => by rw [refAt, List.length_append, refAt_len l i]; rfl
theorem set_last {α : Type} (xs : List α) (a b : α) {n : Nat} (h : n = xs.length) : (xs ++ [a]).set n b = xs ++ [b] := by
  subst h
  rw [List.set_append_right _ _ (Nat.le_refl _), Nat.sub_self]; rfl
theorem getD_last {α : Type} (xs : List α) (a z : α) {n : Nat} (h : n = xs.length) : (xs ++ [a]).getD n z = a := by
  subst h
  simp [List.getD]
theorem getD_front {α : Type} (xs : List α) (a z : α) {n : Nat} (h : n < xs.length) : (xs ++ [a]).getD n z = xs.getD n z := by
  simp [List.getD, List.getElem?_append_left h]

theorem rgreedy_ok (l : List Corr) : Ok Try.prog E 23 [.c (corrs l)] (.tp [.fr 3 (if checkR l 256 = 0 then (refAt l l.length).map num else []), nv (checkR l 256)]) := by
  refine ok_of_vc (L := []) (ts := [2, 3]) envOK mixed Try.func23 rfl (by kernel_rfl) rfl (by kernel_rfl) rfl fun hl => ?_
  simp only [Try.f23, nv, VL, VB, BEq.rfl, V1, V2, V3, V4, V5, V6, V7, V8, V9, V10, VE, Nat.reduceBEq, Nat.reduceAdd, Nat.reduceSub, Nat.reduceMul, Nat.reduceLeDiff, Nat.reduceLT, Nat.reduceEqDiff, Int.reduceBEq, Int.reduceBNe, Int.reduceLT, Int.reduceLE, Int.reduceAdd, Int.reduceSub, Int.reduceMul]
  refine CallX.mk (rcheck_ok l 256) rfl ?_
  simp only [nv, VL, VB, BEq.rfl, V1, V2, V3, V4, V5, V6, V7, V8, V9, V10, VE, Nat.reduceBEq, Nat.reduceAdd, Nat.reduceSub, Nat.reduceMul, Nat.reduceLeDiff, Nat.reduceLT, Nat.reduceEqDiff, Int.reduceBEq, Int.reduceBNe, Int.reduceLT, Int.reduceLE, Int.reduceAdd, Int.reduceSub, Int.reduceMul]
  refine guardB.mk (fun h => ?_) (fun h => ?_)
  · have h0 : ¬ checkR l 256 = 0 := by simpa using h
    simp only [h0, if_false, Option.isSome_some, VL, VB, BEq.rfl, V1, V2, V3, V4, V5, V6, V7, V8, V9, V10, VE, Nat.reduceBEq, Nat.reduceAdd, Nat.reduceSub, Nat.reduceMul, Nat.reduceLeDiff, Nat.reduceLT, Nat.reduceEqDiff, Int.reduceBEq, Int.reduceBNe, Int.reduceLT, Int.reduceLE, Int.reduceAdd, Int.reduceSub, Int.reduceMul]
  have h0 : checkR l 256 = 0 := by simpa using h
  have hn : l.length ≤ 256 := rcheck_len (n := 256) h0
  have hm := rlist_lens (rcheck_list (n := 256) h0)
  simp only [h0, if_true, VL, VB, BEq.rfl, V1, V2, V3, V4, V5, V6, V7, V8, V9, V10, VE, Nat.reduceBEq, Nat.reduceAdd, Nat.reduceSub, Nat.reduceMul, Nat.reduceLeDiff, Nat.reduceLT, Nat.reduceEqDiff, Int.reduceBEq, Int.reduceBNe, Int.reduceLT, Int.reduceLE, Int.reduceAdd, Int.reduceSub, Int.reduceMul]
  refine LoopVC.mk (Y := Nat) (fun i => i ≤ l.length) (fun i => ⟨[(0, .c (corrs l)), (5, .osl 1000 0), (6, .c (.sc (.int .i64 i)))], [(1000, .arr 3 0 ((refAt l i).map num))]⟩) (fun i => l.length - i) ⟨0, Enter.mk [(5, (1000, 3))] [] [] ?_, by omega⟩ ?_
  · simp only [refAt, List.map_nil, Option.isSome_some, VL, VB, BEq.rfl, V1, V2, V3, V4, V5, V6, V7, V8, V9, V10, VE, Nat.reduceBEq, Nat.reduceAdd, Nat.reduceSub, Nat.reduceMul, Nat.reduceLeDiff, Nat.reduceLT, Nat.reduceEqDiff, Int.reduceBEq, Int.reduceBNe, Int.reduceLT, Int.reduceLE, Int.reduceAdd, Int.reduceSub, Int.reduceMul]
    rfl
  intro i hi
  have hll := refAt_len l i
  have hs : refAt l (i + 1) = refAt l i ++ [(refK l (refAt l i) i : Int)] := rfl
  rw [refK] at hs
  generalize hrr : refAt l i = ls at hll hs ⊢
  obtain ⟨K, hK⟩ : ∃ K, scan (fitsR l ls i) i 0 = K := ⟨_, rfl⟩
  rw [hK] at hs
  simp only [lt_nat, VL, VB, BEq.rfl, V1, V2, V3, V4, V5, V6, V7, V8, V9, V10, VE, Nat.reduceBEq, Nat.reduceAdd, Nat.reduceSub, Nat.reduceMul, Nat.reduceLeDiff, Nat.reduceLT, Nat.reduceEqDiff, Int.reduceBEq, Int.reduceBNe, Int.reduceLT, Int.reduceLE, Int.reduceAdd, Int.reduceSub, Int.reduceMul]
  refine guardB.mk (fun h => ?_) (fun h => ?_) <;> simp only [h, VL, VB, BEq.rfl, V1, V2, V3, V4, V5, V6, V7, V8, V9, V10, VE, Nat.reduceBEq, Nat.reduceAdd, Nat.reduceSub, Nat.reduceMul, Nat.reduceLeDiff, Nat.reduceLT, Nat.reduceEqDiff, Int.reduceBEq, Int.reduceBNe, Int.reduceLT, Int.reduceLE, Int.reduceAdd, Int.reduceSub, Int.reduceMul]
  · have hi' : i < l.length := by simpa using h
    obtain ⟨c, hc⟩ : ∃ c, l.getD i Corr.zero = c := ⟨_, rfl⟩
    have hci : cellsAt l i = c.cells := by rw [cellsAt, hc]
    have hcl := (hm c (by rw [← hc]; exact getD_mem hi')).1
    have hw := wrap_nat (k := i) (by omega)
    have hln : ∀ x : Int, (ls ++ [x]).length = i + 1 := fun x => by rw [List.length_append, hll]; rfl
    have hma : ∀ x : Int, ls.map num ++ [[D.sc (.int .i64 x)]] = (ls ++ [x]).map num := fun x => by rw [List.map_append]; rfl
    have hilt : i < i + 1 := Nat.lt_succ_self i
    have hgl : ∀ x : Int, (ls ++ [x]).getD i 0 = x := fun x => getD_last ls x 0 hll.symm
    simp only [getD_corr, hi', hc, corr_def, hw, hma, hll, lt_nat, VL, VB, BEq.rfl, V1, V2, V3, V4, V5, V6, V7, V8, V9, V10, VE, Nat.reduceBEq, Nat.reduceAdd, Nat.reduceSub, Nat.reduceMul, Nat.reduceLeDiff, Nat.reduceLT, Nat.reduceEqDiff, Int.reduceBEq, Int.reduceBNe, Int.reduceLT, Int.reduceLE, Int.reduceAdd, Int.reduceSub, Int.reduceMul]
    refine ⟨⟨by omega, allLen_one rfl⟩, ?_⟩
    refine LoopVC.cut (Y := Nat × Bool) (Z := Unit) 2 (fun y => y.1 ≤ i ∧ cond y.2 (K < i) (scan (fitsR l ls i) (i - y.1) y.1 = K)) (fun y => ⟨[(0, .c (corrs l)), (5, .osl 1000 0), (6, .c (.sc (.int .i64 i))), (7, .c (.sc (.int .i64 y.1)))], [(1000, .arr 3 0 ((ls ++ [cond y.2 (K : Int) i]).map num))]⟩) (fun y => i - y.1)
      (fun _ => True) (fun _ => ⟨[(0, .c (corrs l)), (5, .osl 1000 0), (6, .c (.sc (.int .i64 i)))], [(1000, .arr 3 0 ((ls ++ [(K : Int)]).map num))]⟩) ⟨(0, false), Enter.id ?_, by omega, hK⟩ ?_ ?_
    · simp only [getD_corr, hi', hc, corr_def, hw, hma, hll, lt_nat, VL, VB, BEq.rfl, V1, V2, V3, V4, V5, V6, V7, V8, V9, V10, VE, Nat.reduceBEq, Nat.reduceAdd, Nat.reduceSub, Nat.reduceMul, Nat.reduceLeDiff, Nat.reduceLT, Nat.reduceEqDiff, Int.reduceBEq, Int.reduceBNe, Int.reduceLT, Int.reduceLE, Int.reduceAdd, Int.reduceSub, Int.reduceMul]
      rfl
    · rintro ⟨k, fo⟩ ⟨hk, hfo⟩
      simp only at hk hfo
      simp only [getD_corr, hi', hc, corr_def, hw, hma, hll, lt_nat, VL, VB, BEq.rfl, V1, V2, V3, V4, V5, V6, V7, V8, V9, V10, VE, Nat.reduceBEq, Nat.reduceAdd, Nat.reduceSub, Nat.reduceMul, Nat.reduceLeDiff, Nat.reduceLT, Nat.reduceEqDiff, Int.reduceBEq, Int.reduceBNe, Int.reduceLT, Int.reduceLE, Int.reduceAdd, Int.reduceSub, Int.reduceMul]
      refine guardB.mk (fun h2 => ?_) (fun h2 => ?_) <;> simp only [h2, getD_corr, hi', hc, corr_def, hw, hma, hll, lt_nat, VL, VB, BEq.rfl, V1, V2, V3, V4, V5, V6, V7, V8, V9, V10, VE, Nat.reduceBEq, Nat.reduceAdd, Nat.reduceSub, Nat.reduceMul, Nat.reduceLeDiff, Nat.reduceLT, Nat.reduceEqDiff, Int.reduceBEq, Int.reduceBNe, Int.reduceLT, Int.reduceLE, Int.reduceAdd, Int.reduceSub, Int.reduceMul]
      · have hki : k < i := by simpa using h2
        have hkl : k < i + 1 := by omega
        have hks : k < ls.length := by omega
        have hgk : ∀ x : Int, (ls ++ [x]).getD k 0 = ls.getD k 0 := fun x => getD_front ls x 0 hks
        have hwk := wrap_nat (k := k) (by omega)
        simp only [getD_num, hln, hilt, hkl, hgl, hgk, num_def, int_beq, num_beq, hwk, getD_corr, hi', hc, corr_def, hw, hma, hll, lt_nat, VL, VB, BEq.rfl, V1, V2, V3, V4, V5, V6, V7, V8, V9, V10, VE, Nat.reduceBEq, Nat.reduceAdd, Nat.reduceSub, Nat.reduceMul, Nat.reduceLeDiff, Nat.reduceLT, Nat.reduceEqDiff, Int.reduceBEq, Int.reduceBNe, Int.reduceLT, Int.reduceLE, Int.reduceAdd, Int.reduceSub, Int.reduceMul]
        refine ⟨Int.natCast_nonneg i, guardB.mk (fun h3 => ?_) (fun h3 => ?_)⟩ <;> simp only [h3, getD_num, hln, hilt, hkl, hgl, hgk, num_def, int_beq, num_beq, hwk, getD_corr, hi', hc, corr_def, hw, hma, hll, lt_nat, VL, VB, BEq.rfl, V1, V2, V3, V4, V5, V6, V7, V8, V9, V10, VE, Nat.reduceBEq, Nat.reduceAdd, Nat.reduceSub, Nat.reduceMul, Nat.reduceLeDiff, Nat.reduceLT, Nat.reduceEqDiff, Int.reduceBEq, Int.reduceBNe, Int.reduceLT, Int.reduceLE, Int.reduceAdd, Int.reduceSub, Int.reduceMul]
        · have hff : fo = false := by
            cases fo with
            | false => rfl
            | true =>
              simp only [cond_true, decide_eq_true_eq] at h3 hfo
              omega
          subst hff
          simp only [cond_false] at hfo ⊢
          refine ⟨Int.natCast_nonneg k, guardB.mk (fun h4 => ?_) (fun h4 => ?_)⟩ <;> simp only [h4, getD_num, hln, hilt, hkl, hgl, hgk, num_def, int_beq, num_beq, hwk, getD_corr, hi', hc, corr_def, hw, hma, hll, lt_nat, VL, VB, BEq.rfl, V1, V2, V3, V4, V5, V6, V7, V8, V9, V10, VE, Nat.reduceBEq, Nat.reduceAdd, Nat.reduceSub, Nat.reduceMul, Nat.reduceLeDiff, Nat.reduceLT, Nat.reduceEqDiff, Int.reduceBEq, Int.reduceBNe, Int.reduceLT, Int.reduceLE, Int.reduceAdd, Int.reduceSub, Int.reduceMul]
          · have hno : fitsR l ls i k = false := by
              rw [fitsR, show decide (ls.getD k 0 = (k : Int)) = false from by simpa using h4]; rfl
            refine ⟨(k + 1, false), Enter.id ?_, ⟨by show k + 1 ≤ i; omega, by show scan _ _ _ = _; rw [← scan_miss _ hki hno, hfo]⟩, by show i - (k + 1) < i - k; omega⟩
            simp only [getD_num, hln, hilt, hkl, hgl, hgk, num_def, int_beq, num_beq, hwk, getD_corr, hi', hc, corr_def, hw, hma, hll, lt_nat, VL, VB, BEq.rfl, V1, V2, V3, V4, V5, V6, V7, V8, V9, V10, VE, Nat.reduceBEq, Nat.reduceAdd, Nat.reduceSub, Nat.reduceMul, Nat.reduceLeDiff, Nat.reduceLT, Nat.reduceEqDiff, Int.reduceBEq, Int.reduceBNe, Int.reduceLT, Int.reduceLE, Int.reduceAdd, Int.reduceSub, Int.reduceMul]
          · have hlk : decide (ls.getD k 0 = (k : Int)) = true := by simpa using h4
            refine LoopVC.cut (Y := Nat) (Z := Unit) 4 (fun j => j ≤ i) (fun j => ⟨[(0, .c (corrs l)), (5, .osl 1000 0), (6, .c (.sc (.int .i64 i))), (7, .c (.sc (.int .i64 k))), (8, .c (.sc (.bool (goodTo l ls i k j)))), (9, .c (.sc (.int .i64 j)))], [(1000, .arr 3 0 ((ls ++ [(i : Int)]).map num))]⟩) (fun j => i - j)
              (fun _ => True) (fun _ => ⟨[(0, .c (corrs l)), (5, .osl 1000 0), (6, .c (.sc (.int .i64 i))), (7, .c (.sc (.int .i64 k))), (8, .c (.sc (.bool (goodTo l ls i k i))))], [(1000, .arr 3 0 ((ls ++ [(i : Int)]).map num))]⟩) ⟨0, Enter.id ?_, by omega⟩ ?_ ?_
            · simp only [goodTo, List.range_zero, List.all_nil, getD_num, hln, hilt, hkl, hgl, hgk, num_def, int_beq, num_beq, hwk, getD_corr, hi', hc, corr_def, hw, hma, hll, lt_nat, VL, VB, BEq.rfl, V1, V2, V3, V4, V5, V6, V7, V8, V9, V10, VE, Nat.reduceBEq, Nat.reduceAdd, Nat.reduceSub, Nat.reduceMul, Nat.reduceLeDiff, Nat.reduceLT, Nat.reduceEqDiff, Int.reduceBEq, Int.reduceBNe, Int.reduceLT, Int.reduceLE, Int.reduceAdd, Int.reduceSub, Int.reduceMul]
              rfl
            · intro j hj
              have hgs := goodTo_succ l ls i k j
              generalize hgg : goodTo l ls i k j = g at hgs ⊢
              simp only [getD_num, hln, hilt, hkl, hgl, hgk, num_def, int_beq, num_beq, hwk, getD_corr, hi', hc, corr_def, hw, hma, hll, lt_nat, VL, VB, BEq.rfl, V1, V2, V3, V4, V5, V6, V7, V8, V9, V10, VE, Nat.reduceBEq, Nat.reduceAdd, Nat.reduceSub, Nat.reduceMul, Nat.reduceLeDiff, Nat.reduceLT, Nat.reduceEqDiff, Int.reduceBEq, Int.reduceBNe, Int.reduceLT, Int.reduceLE, Int.reduceAdd, Int.reduceSub, Int.reduceMul]
              refine guardB.mk (fun h5 => ?_) (fun h5 => ?_) <;> simp only [h5, getD_num, hln, hilt, hkl, hgl, hgk, num_def, int_beq, num_beq, hwk, getD_corr, hi', hc, corr_def, hw, hma, hll, lt_nat, VL, VB, BEq.rfl, V1, V2, V3, V4, V5, V6, V7, V8, V9, V10, VE, Nat.reduceBEq, Nat.reduceAdd, Nat.reduceSub, Nat.reduceMul, Nat.reduceLeDiff, Nat.reduceLT, Nat.reduceEqDiff, Int.reduceBEq, Int.reduceBNe, Int.reduceLT, Int.reduceLE, Int.reduceAdd, Int.reduceSub, Int.reduceMul]
              · have hji : j < i := by simpa using h5
                have hjl : j < i + 1 := by omega
                have hjs : j < ls.length := by omega
                have hjc : j < l.length := by omega
                have hgj : ∀ x : Int, (ls ++ [x]).getD j 0 = ls.getD j 0 := fun x => getD_front ls x 0 hjs
                have hwj := wrap_nat (k := j) (by omega)
                obtain ⟨d, hd⟩ : ∃ d, l.getD j Corr.zero = d := ⟨_, rfl⟩
                have hdj : cellsAt l j = d.cells := by rw [cellsAt, hd]
                have hdl := (hm d (by rw [← hd]; exact getD_mem hjc)).1
                rw [badR, hci, hdj] at hgs
                simp only [hjl, hjc, hgj, hwj, hd, getD_num, hln, hilt, hkl, hgl, hgk, num_def, int_beq, num_beq, hwk, getD_corr, hi', hc, corr_def, hw, hma, hll, lt_nat, VL, VB, BEq.rfl, V1, V2, V3, V4, V5, V6, V7, V8, V9, V10, VE, Nat.reduceBEq, Nat.reduceAdd, Nat.reduceSub, Nat.reduceMul, Nat.reduceLeDiff, Nat.reduceLT, Nat.reduceEqDiff, Int.reduceBEq, Int.reduceBNe, Int.reduceLT, Int.reduceLE, Int.reduceAdd, Int.reduceSub, Int.reduceMul]
                refine ⟨Int.natCast_nonneg j, guardB.mk (fun h6 => ?_) (fun h6 => ?_)⟩ <;> simp only [h6, hjl, hjc, hgj, hwj, hd, getD_num, hln, hilt, hkl, hgl, hgk, num_def, int_beq, num_beq, hwk, getD_corr, hi', hc, corr_def, hw, hma, hll, lt_nat, VL, VB, BEq.rfl, V1, V2, V3, V4, V5, V6, V7, V8, V9, V10, VE, Nat.reduceBEq, Nat.reduceAdd, Nat.reduceSub, Nat.reduceMul, Nat.reduceLeDiff, Nat.reduceLT, Nat.reduceEqDiff, Int.reduceBEq, Int.reduceBNe, Int.reduceLT, Int.reduceLE, Int.reduceAdd, Int.reduceSub, Int.reduceMul]
                · refine ⟨Int.natCast_nonneg i, Int.natCast_nonneg j, ?_⟩
                  refine CallX.mk (rfit_ok c.cells d.cells (by omega)) rfl ?_
                  simp only [hjl, hjc, hgj, hwj, hd, getD_num, hln, hilt, hkl, hgl, hgk, num_def, int_beq, num_beq, hwk, getD_corr, hi', hc, corr_def, hw, hma, hll, lt_nat, VL, VB, BEq.rfl, V1, V2, V3, V4, V5, V6, V7, V8, V9, V10, VE, Nat.reduceBEq, Nat.reduceAdd, Nat.reduceSub, Nat.reduceMul, Nat.reduceLeDiff, Nat.reduceLT, Nat.reduceEqDiff, Int.reduceBEq, Int.reduceBNe, Int.reduceLT, Int.reduceLE, Int.reduceAdd, Int.reduceSub, Int.reduceMul]
                  refine guardB.mk (fun h7 => ?_) (fun h7 => ?_) <;> simp only [h6, h7, Bool.true_and, Bool.not_true, Bool.and_false, Bool.not_false, Bool.and_true] at hgs <;> simp only [h7, hjl, hjc, hgj, hwj, hd, getD_num, hln, hilt, hkl, hgl, hgk, num_def, int_beq, num_beq, hwk, getD_corr, hi', hc, corr_def, hw, hma, hll, lt_nat, VL, VB, BEq.rfl, V1, V2, V3, V4, V5, V6, V7, V8, V9, V10, VE, Nat.reduceBEq, Nat.reduceAdd, Nat.reduceSub, Nat.reduceMul, Nat.reduceLeDiff, Nat.reduceLT, Nat.reduceEqDiff, Int.reduceBEq, Int.reduceBNe, Int.reduceLT, Int.reduceLE, Int.reduceAdd, Int.reduceSub, Int.reduceMul]
                  · refine ⟨j + 1, Enter.id ?_, by omega, by show i - (j + 1) < i - j; omega⟩
                    simp only [hgs, hjl, hjc, hgj, hwj, hd, getD_num, hln, hilt, hkl, hgl, hgk, num_def, int_beq, num_beq, hwk, getD_corr, hi', hc, corr_def, hw, hma, hll, lt_nat, VL, VB, BEq.rfl, V1, V2, V3, V4, V5, V6, V7, V8, V9, V10, VE, Nat.reduceBEq, Nat.reduceAdd, Nat.reduceSub, Nat.reduceMul, Nat.reduceLeDiff, Nat.reduceLT, Nat.reduceEqDiff, Int.reduceBEq, Int.reduceBNe, Int.reduceLT, Int.reduceLE, Int.reduceAdd, Int.reduceSub, Int.reduceMul]
                  · refine ⟨j + 1, Enter.id ?_, by omega, by show i - (j + 1) < i - j; omega⟩
                    simp only [hgs, hjl, hjc, hgj, hwj, hd, getD_num, hln, hilt, hkl, hgl, hgk, num_def, int_beq, num_beq, hwk, getD_corr, hi', hc, corr_def, hw, hma, hll, lt_nat, VL, VB, BEq.rfl, V1, V2, V3, V4, V5, V6, V7, V8, V9, V10, VE, Nat.reduceBEq, Nat.reduceAdd, Nat.reduceSub, Nat.reduceMul, Nat.reduceLeDiff, Nat.reduceLT, Nat.reduceEqDiff, Int.reduceBEq, Int.reduceBNe, Int.reduceLT, Int.reduceLE, Int.reduceAdd, Int.reduceSub, Int.reduceMul]
                · simp only [h6, Bool.false_and, Bool.not_false, Bool.and_true] at hgs
                  refine ⟨j + 1, Enter.id ?_, by omega, by show i - (j + 1) < i - j; omega⟩
                  simp only [hgs, hjl, hjc, hgj, hwj, hd, getD_num, hln, hilt, hkl, hgl, hgk, num_def, int_beq, num_beq, hwk, getD_corr, hi', hc, corr_def, hw, hma, hll, lt_nat, VL, VB, BEq.rfl, V1, V2, V3, V4, V5, V6, V7, V8, V9, V10, VE, Nat.reduceBEq, Nat.reduceAdd, Nat.reduceSub, Nat.reduceMul, Nat.reduceLeDiff, Nat.reduceLT, Nat.reduceEqDiff, Int.reduceBEq, Int.reduceBNe, Int.reduceLT, Int.reduceLE, Int.reduceAdd, Int.reduceSub, Int.reduceMul]
              · have hje : j = i := by
                  have : ¬ j < i := by simpa using h5
                  omega
                rw [hje] at hgg
                refine ⟨(), Enter.id ?_, trivial⟩
                simp only [hgg, getD_num, hln, hilt, hkl, hgl, hgk, num_def, int_beq, num_beq, hwk, getD_corr, hi', hc, corr_def, hw, hma, hll, lt_nat, VL, VB, BEq.rfl, V1, V2, V3, V4, V5, V6, V7, V8, V9, V10, VE, Nat.reduceBEq, Nat.reduceAdd, Nat.reduceSub, Nat.reduceMul, Nat.reduceLeDiff, Nat.reduceLT, Nat.reduceEqDiff, Int.reduceBEq, Int.reduceBNe, Int.reduceLT, Int.reduceLE, Int.reduceAdd, Int.reduceSub, Int.reduceMul]
            · rintro _ _
              simp only [getD_num, hln, hilt, hkl, hgl, hgk, num_def, int_beq, num_beq, hwk, getD_corr, hi', hc, corr_def, hw, hma, hll, lt_nat, VL, VB, BEq.rfl, V1, V2, V3, V4, V5, V6, V7, V8, V9, V10, VE, Nat.reduceBEq, Nat.reduceAdd, Nat.reduceSub, Nat.reduceMul, Nat.reduceLeDiff, Nat.reduceLT, Nat.reduceEqDiff, Int.reduceBEq, Int.reduceBNe, Int.reduceLT, Int.reduceLE, Int.reduceAdd, Int.reduceSub, Int.reduceMul]
              refine guardB.mk (fun h5 => ?_) (fun h5 => ?_) <;> simp only [h5, getD_num, hln, hilt, hkl, hgl, hgk, num_def, int_beq, num_beq, hwk, getD_corr, hi', hc, corr_def, hw, hma, hll, lt_nat, VL, VB, BEq.rfl, V1, V2, V3, V4, V5, V6, V7, V8, V9, V10, VE, Nat.reduceBEq, Nat.reduceAdd, Nat.reduceSub, Nat.reduceMul, Nat.reduceLeDiff, Nat.reduceLT, Nat.reduceEqDiff, Int.reduceBEq, Int.reduceBNe, Int.reduceLT, Int.reduceLE, Int.reduceAdd, Int.reduceSub, Int.reduceMul]
              · have hyes : fitsR l ls i k = true := by rw [fitsR, hlk, h5]; rfl
                rw [scan_hit _ hyes] at hfo
                subst hfo
                refine ⟨Int.natCast_nonneg i, (k + 1, true), Enter.id ?_, ⟨by show k + 1 ≤ i; omega, hki⟩, by show i - (k + 1) < i - k; omega⟩
                have hset : (List.map num (ls ++ [(i : Int)])).set i [D.sc (.int .i64 (k : Int))] = (ls ++ [(k : Int)]).map num := by
                  rw [← set_last ls (i : Int) (k : Int) hll.symm, List.map_set]; rfl
                simp only [hset, getD_num, hln, hilt, hkl, hgl, hgk, num_def, int_beq, num_beq, hwk, getD_corr, hi', hc, corr_def, hw, hma, hll, lt_nat, VL, VB, BEq.rfl, V1, V2, V3, V4, V5, V6, V7, V8, V9, V10, VE, Nat.reduceBEq, Nat.reduceAdd, Nat.reduceSub, Nat.reduceMul, Nat.reduceLeDiff, Nat.reduceLT, Nat.reduceEqDiff, Int.reduceBEq, Int.reduceBNe, Int.reduceLT, Int.reduceLE, Int.reduceAdd, Int.reduceSub, Int.reduceMul]
              · have hno : fitsR l ls i k = false := by rw [fitsR, h5, Bool.and_false]
                refine ⟨(k + 1, false), Enter.id ?_, ⟨by show k + 1 ≤ i; omega, by show scan _ _ _ = _; rw [← scan_miss _ hki hno, hfo]⟩, by show i - (k + 1) < i - k; omega⟩
                simp only [getD_num, hln, hilt, hkl, hgl, hgk, num_def, int_beq, num_beq, hwk, getD_corr, hi', hc, corr_def, hw, hma, hll, lt_nat, VL, VB, BEq.rfl, V1, V2, V3, V4, V5, V6, V7, V8, V9, V10, VE, Nat.reduceBEq, Nat.reduceAdd, Nat.reduceSub, Nat.reduceMul, Nat.reduceLeDiff, Nat.reduceLT, Nat.reduceEqDiff, Int.reduceBEq, Int.reduceBNe, Int.reduceLT, Int.reduceLE, Int.reduceAdd, Int.reduceSub, Int.reduceMul]
        · have hff : fo = true := by
            cases fo with
            | false =>
              simp at h3
            | true => rfl
          subst hff
          refine ⟨(), Enter.id ?_, trivial⟩
          simp only [cond_true, getD_num, hln, hilt, hkl, hgl, hgk, num_def, int_beq, num_beq, hwk, getD_corr, hi', hc, corr_def, hw, hma, hll, lt_nat, VL, VB, BEq.rfl, V1, V2, V3, V4, V5, V6, V7, V8, V9, V10, VE, Nat.reduceBEq, Nat.reduceAdd, Nat.reduceSub, Nat.reduceMul, Nat.reduceLeDiff, Nat.reduceLT, Nat.reduceEqDiff, Int.reduceBEq, Int.reduceBNe, Int.reduceLT, Int.reduceLE, Int.reduceAdd, Int.reduceSub, Int.reduceMul]
      · have hki : ¬ k < i := by simpa using h2
        have hcur : cond fo (K : Int) i = K := by
          cases fo with
          | true => rfl
          | false =>
            simp only [cond_false] at hfo ⊢
            rw [scan_end _ hki] at hfo
            omega
        refine ⟨(), Enter.id ?_, trivial⟩
        simp only [hcur, getD_corr, hi', hc, corr_def, hw, hma, hll, lt_nat, VL, VB, BEq.rfl, V1, V2, V3, V4, V5, V6, V7, V8, V9, V10, VE, Nat.reduceBEq, Nat.reduceAdd, Nat.reduceSub, Nat.reduceMul, Nat.reduceLeDiff, Nat.reduceLT, Nat.reduceEqDiff, Int.reduceBEq, Int.reduceBNe, Int.reduceLT, Int.reduceLE, Int.reduceAdd, Int.reduceSub, Int.reduceMul]
    · rintro _ _
      simp only [getD_corr, hi', hc, corr_def, hw, hma, hll, lt_nat, VL, VB, BEq.rfl, V1, V2, V3, V4, V5, V6, V7, V8, V9, V10, VE, Nat.reduceBEq, Nat.reduceAdd, Nat.reduceSub, Nat.reduceMul, Nat.reduceLeDiff, Nat.reduceLT, Nat.reduceEqDiff, Int.reduceBEq, Int.reduceBNe, Int.reduceLT, Int.reduceLE, Int.reduceAdd, Int.reduceSub, Int.reduceMul]
      refine ⟨i + 1, Enter.id ?_, by omega, by show l.length - (i + 1) < l.length - i; omega⟩
      simp only [hs, getD_corr, hi', hc, corr_def, hw, hma, hll, lt_nat, VL, VB, BEq.rfl, V1, V2, V3, V4, V5, V6, V7, V8, V9, V10, VE, Nat.reduceBEq, Nat.reduceAdd, Nat.reduceSub, Nat.reduceMul, Nat.reduceLeDiff, Nat.reduceLT, Nat.reduceEqDiff, Int.reduceBEq, Int.reduceBNe, Int.reduceLT, Int.reduceLE, Int.reduceAdd, Int.reduceSub, Int.reduceMul]
  · have hie : i = l.length := by
      have : ¬ i < l.length := by simpa using h
      omega
    rw [hie] at hrr
    rw [hrr]

end Go.Cp
end
