/-
  SyllCovers returns true for every input: the syllables follow one another from the first place of a word to the last one; there are as many as peaks, if there is one; each nucleus is a peak. Conditions: none.
-/
import Derived.Test.YtmiieofmhncfbaaMJ
import Derived.Test.YtmiieofmhncfbaaMP
set_option linter.unusedVariables false
set_option linter.unusedSimpArgs false
set_option maxHeartbeats 8000000
set_option maxRecDepth 100000
namespace Go.Cp
open Go Go.Proofs Go.Vx

theorem covers_law (sc : List Snd) (p : Int) (w : List Snd) (hsc : AllIn sc) (hw : AllIn w) : Ok Try.prog E 7 [.ag (ruleD sc p), .c (word w)] (bv true) := by
  refine ok_of_vc (L := [(8, [(5, 6), (5, 7)]), (19, [(13, 14), (13, 15)])]) (ts := [4]) envOK mixed Try.func7 rfl (by kernel_rfl) rfl (by kernel_rfl) rfl fun hl => ?_
  simp only [Try.f7, word, nums, nats, zv, nv, bv, sv, beq_self_eq_true, VL, VB, BEq.rfl, V1, V2, V3, V4, V5, V6, V7, V8, V9, V10, V11, V12, V13, VE, Nat.reduceBEq, Nat.reduceAdd, Nat.reduceSub, Nat.reduceMul, Nat.reduceLeDiff, Nat.reduceLT, Nat.reduceEqDiff, Int.reduceBEq, Int.reduceBNe, Int.reduceLT, Int.reduceLE, Int.reduceAdd, Int.reduceSub, Int.reduceMul, kAgg, scD, List.all_cons, List.all_nil]
  refine CallX.mk (Split_ok sc p w hsc hw) rfl ?_
  by_cases hc : checkE sc p [w] = 0
  case neg =>
    have h1 : (checkE sc p [w] != 0) = true := by simpa using hc
    have h2 : splitS sc p w = [] := by rw [splitS, if_neg hc]
    have h3 : (([] : List Syl).map Syl.enc).length = 0 := rfl
    have h4 : (((0 : Nat) : Int) == 0) = true := rfl
    simp only [h1, h2, syls, h3, h4, word, nums, nats, zv, nv, bv, sv, beq_self_eq_true, VL, VB, BEq.rfl, V1, V2, V3, V4, V5, V6, V7, V8, V9, V10, V11, V12, V13, VE, Nat.reduceBEq, Nat.reduceAdd, Nat.reduceSub, Nat.reduceMul, Nat.reduceLeDiff, Nat.reduceLT, Nat.reduceEqDiff, Int.reduceBEq, Int.reduceBNe, Int.reduceLT, Int.reduceLE, Int.reduceAdd, Int.reduceSub, Int.reduceMul, kAgg, scD, List.all_cons, List.all_nil]
    refine CallX.mk works_ok rfl ?_
    simp only [word, nums, nats, zv, nv, bv, sv, beq_self_eq_true, VL, VB, BEq.rfl, V1, V2, V3, V4, V5, V6, V7, V8, V9, V10, V11, V12, V13, VE, Nat.reduceBEq, Nat.reduceAdd, Nat.reduceSub, Nat.reduceMul, Nat.reduceLeDiff, Nat.reduceLT, Nat.reduceEqDiff, Int.reduceBEq, Int.reduceBNe, Int.reduceLT, Int.reduceLE, Int.reduceAdd, Int.reduceSub, Int.reduceMul, kAgg, scD, List.all_cons, List.all_nil]
  obtain ⟨hr, hwl⟩ := checkE_zero hc
  have hss : splitS sc p w = splitL p (lev sc w) := by rw [splitS, if_pos hc]
  have hson : ∀ i, i < w.length → sonN sc p (w.getD i Snd.zero) = (lev sc w).getD i 0 := fun i hi => by rw [lev_at hi, sonN, if_pos hr]
  have hlv := lev_len sc w
  rw [hss]
  revert hson hlv
  generalize lev sc w = lv
  intro hson hlv
  have hbeg := fun k (hk : k < (splitL p lv).length) => split_begin hk
  have hend := split_end p lv
  have hnum := split_number p lv
  have hfac := fun k (hk : k < (splitL p lv).length) => split_facts hk
  have hins := fun k (hk : k < (splitL p lv).length) => splitL_in (p := p) (lv := lv) (getD_mem Syl.zero hk)
  have hpk : (peaksN p lv w.length).length = (peaksL p lv).length := by rw [peaksL, peaksN, hlv]
  have hsl := splitL_len p lv
  revert hbeg hend hnum hfac hins hsl
  generalize splitL p lv = ss
  intro hbeg hend hnum hfac hins hsl
  simp only [syls, List.length_map, hc, bne_self_eq_false, word, nums, nats, zv, nv, bv, sv, beq_self_eq_true, VL, VB, BEq.rfl, V1, V2, V3, V4, V5, V6, V7, V8, V9, V10, V11, V12, V13, VE, Nat.reduceBEq, Nat.reduceAdd, Nat.reduceSub, Nat.reduceMul, Nat.reduceLeDiff, Nat.reduceLT, Nat.reduceEqDiff, Int.reduceBEq, Int.reduceBNe, Int.reduceLT, Int.reduceLE, Int.reduceAdd, Int.reduceSub, Int.reduceMul, kAgg, scD, List.all_cons, List.all_nil]
  refine LoopVC.mk (Y := Nat) (fun k => k ≤ w.length) (fun k => ⟨[(1, .c (word w)), (2, .bp 2 0), (5, .c (syls ss)), (7, zv 0), (8, nv (peaksN p lv k).length), (9, nv k)], [(2, .cells [.c (word sc), zv p])]⟩) (fun k => w.length - k) ⟨0, Enter.mk [] [] [] ?_, by omega⟩ ?_
  · simp only [syls, List.length_map, hc, bne_self_eq_false, word, nums, nats, zv, nv, bv, sv, beq_self_eq_true, VL, VB, BEq.rfl, V1, V2, V3, V4, V5, V6, V7, V8, V9, V10, V11, V12, V13, VE, Nat.reduceBEq, Nat.reduceAdd, Nat.reduceSub, Nat.reduceMul, Nat.reduceLeDiff, Nat.reduceLT, Nat.reduceEqDiff, Int.reduceBEq, Int.reduceBNe, Int.reduceLT, Int.reduceLE, Int.reduceAdd, Int.reduceSub, Int.reduceMul, kAgg, scD, List.all_cons, List.all_nil]
    exact ⟨rfl, rfl⟩
  intro k hk
  simp only [lt_nat, syls, List.length_map, hc, bne_self_eq_false, word, nums, nats, zv, nv, bv, sv, beq_self_eq_true, VL, VB, BEq.rfl, V1, V2, V3, V4, V5, V6, V7, V8, V9, V10, V11, V12, V13, VE, Nat.reduceBEq, Nat.reduceAdd, Nat.reduceSub, Nat.reduceMul, Nat.reduceLeDiff, Nat.reduceLT, Nat.reduceEqDiff, Int.reduceBEq, Int.reduceBNe, Int.reduceLT, Int.reduceLE, Int.reduceAdd, Int.reduceSub, Int.reduceMul, kAgg, scD, List.all_cons, List.all_nil]
  refine guardB.mk (fun h => ?_) (fun h => ?_)
  · have hk' : k < w.length := by simpa using h
    clear h
    have hin := hw k
    have hps := peaksN_succ p lv k
    have hpl := peaksN_len p lv k
    have hsn := hson k hk'
    have e0 : (0 : Int) ≤ (k : Int) := Int.natCast_nonneg k
    obtain ⟨c, hc2⟩ : ∃ c, w.getD k Snd.zero = c := ⟨_, rfl⟩
    rw [hc2] at hin hsn
    have hlv := Sonority_ok sc p c hsc hin
    rw [snd_def, hsn] at hlv
    obtain ⟨n, hn⟩ : ∃ n, lv.getD k 0 = n := ⟨_, rfl⟩
    rw [hn] at hlv hps
    simp only [e0, hk', getD_snd w k hk', hc2, snd_def, syls, List.length_map, hc, bne_self_eq_false, word, nums, nats, zv, nv, bv, sv, beq_self_eq_true, VL, VB, BEq.rfl, V1, V2, V3, V4, V5, V6, V7, V8, V9, V10, V11, V12, V13, VE, Nat.reduceBEq, Nat.reduceAdd, Nat.reduceSub, Nat.reduceMul, Nat.reduceLeDiff, Nat.reduceLT, Nat.reduceEqDiff, Int.reduceBEq, Int.reduceBNe, Int.reduceLT, Int.reduceLE, Int.reduceAdd, Int.reduceSub, Int.reduceMul, kAgg, scD, List.all_cons, List.all_nil]
    refine CallX.mk hlv rfl ?_
    simp only [syls, List.length_map, hc, bne_self_eq_false, word, nums, nats, zv, nv, bv, sv, beq_self_eq_true, VL, VB, BEq.rfl, V1, V2, V3, V4, V5, V6, V7, V8, V9, V10, V11, V12, V13, VE, Nat.reduceBEq, Nat.reduceAdd, Nat.reduceSub, Nat.reduceMul, Nat.reduceLeDiff, Nat.reduceLT, Nat.reduceEqDiff, Int.reduceBEq, Int.reduceBNe, Int.reduceLT, Int.reduceLE, Int.reduceAdd, Int.reduceSub, Int.reduceMul, kAgg, scD, List.all_cons, List.all_nil]
    refine guardB.mk (fun h => ?_) (fun h => ?_)
    · have h2 : p ≤ (n : Int) := by simpa using h
      rw [if_pos h2] at hps
      have e1 : (peaksN p lv (k + 1)).length = (peaksN p lv k).length + 1 := by rw [hps, List.length_append]; rfl
      simp only [wrap_nat (k := k) (by omega), wrap_nat (k := (peaksN p lv k).length) (by omega), syls, List.length_map, hc, bne_self_eq_false, word, nums, nats, zv, nv, bv, sv, beq_self_eq_true, VL, VB, BEq.rfl, V1, V2, V3, V4, V5, V6, V7, V8, V9, V10, V11, V12, V13, VE, Nat.reduceBEq, Nat.reduceAdd, Nat.reduceSub, Nat.reduceMul, Nat.reduceLeDiff, Nat.reduceLT, Nat.reduceEqDiff, Int.reduceBEq, Int.reduceBNe, Int.reduceLT, Int.reduceLE, Int.reduceAdd, Int.reduceSub, Int.reduceMul, kAgg, scD, List.all_cons, List.all_nil]
      refine ⟨k + 1, Enter.mk [] [] [] ?_, by omega, by show w.length - (k + 1) < w.length - k; omega⟩
      simp only [e1, syls, List.length_map, hc, bne_self_eq_false, word, nums, nats, zv, nv, bv, sv, beq_self_eq_true, VL, VB, BEq.rfl, V1, V2, V3, V4, V5, V6, V7, V8, V9, V10, V11, V12, V13, VE, Nat.reduceBEq, Nat.reduceAdd, Nat.reduceSub, Nat.reduceMul, Nat.reduceLeDiff, Nat.reduceLT, Nat.reduceEqDiff, Int.reduceBEq, Int.reduceBNe, Int.reduceLT, Int.reduceLE, Int.reduceAdd, Int.reduceSub, Int.reduceMul, kAgg, scD, List.all_cons, List.all_nil]
    · have h2 : ¬ p ≤ (n : Int) := by simpa using h
      rw [if_neg h2] at hps
      simp only [wrap_nat (k := k) (by omega), syls, List.length_map, hc, bne_self_eq_false, word, nums, nats, zv, nv, bv, sv, beq_self_eq_true, VL, VB, BEq.rfl, V1, V2, V3, V4, V5, V6, V7, V8, V9, V10, V11, V12, V13, VE, Nat.reduceBEq, Nat.reduceAdd, Nat.reduceSub, Nat.reduceMul, Nat.reduceLeDiff, Nat.reduceLT, Nat.reduceEqDiff, Int.reduceBEq, Int.reduceBNe, Int.reduceLT, Int.reduceLE, Int.reduceAdd, Int.reduceSub, Int.reduceMul, kAgg, scD, List.all_cons, List.all_nil]
      refine ⟨k + 1, Enter.mk [] [] [] ?_, by omega, by show w.length - (k + 1) < w.length - k; omega⟩
      simp only [hps, syls, List.length_map, hc, bne_self_eq_false, word, nums, nats, zv, nv, bv, sv, beq_self_eq_true, VL, VB, BEq.rfl, V1, V2, V3, V4, V5, V6, V7, V8, V9, V10, V11, V12, V13, VE, Nat.reduceBEq, Nat.reduceAdd, Nat.reduceSub, Nat.reduceMul, Nat.reduceLeDiff, Nat.reduceLT, Nat.reduceEqDiff, Int.reduceBEq, Int.reduceBNe, Int.reduceLT, Int.reduceLE, Int.reduceAdd, Int.reduceSub, Int.reduceMul, kAgg, scD, List.all_cons, List.all_nil]
  have hk' : k = w.length := by
    have : ¬ k < w.length := by simpa using h
    omega
  subst hk'
  rw [hpk]
  have hpl : (peaksL p lv).length ≤ w.length := by rw [← hpk]; exact peaksN_len p lv w.length
  obtain ⟨np, hnp⟩ : ∃ np, (peaksL p lv).length = np := ⟨_, rfl⟩
  rw [hnp] at hnum hpl ⊢
  simp only [hnp] at hfac
  simp only [syls, List.length_map, hc, bne_self_eq_false, word, nums, nats, zv, nv, bv, sv, beq_self_eq_true, VL, VB, BEq.rfl, V1, V2, V3, V4, V5, V6, V7, V8, V9, V10, V11, V12, V13, VE, Nat.reduceBEq, Nat.reduceAdd, Nat.reduceSub, Nat.reduceMul, Nat.reduceLeDiff, Nat.reduceLT, Nat.reduceEqDiff, Int.reduceBEq, Int.reduceBNe, Int.reduceLT, Int.reduceLE, Int.reduceAdd, Int.reduceSub, Int.reduceMul, kAgg, scD, List.all_cons, List.all_nil]
  refine LoopVC.mk (Y := Nat) (fun k => k ≤ ss.length) (fun k => ⟨[(1, .c (word w)), (2, .bp 2 0), (5, .c (syls ss)), (7, nv (atN ss k)), (8, nv np), (10, nv k)], [(2, .cells [.c (word sc), zv p])]⟩) (fun k => ss.length - k) ⟨0, Enter.mk [] [] [] ?_, by omega⟩ ?_
  · simp only [syls, List.length_map, hc, bne_self_eq_false, word, nums, nats, zv, nv, bv, sv, beq_self_eq_true, VL, VB, BEq.rfl, V1, V2, V3, V4, V5, V6, V7, V8, V9, V10, V11, V12, V13, VE, Nat.reduceBEq, Nat.reduceAdd, Nat.reduceSub, Nat.reduceMul, Nat.reduceLeDiff, Nat.reduceLT, Nat.reduceEqDiff, Int.reduceBEq, Int.reduceBNe, Int.reduceLT, Int.reduceLE, Int.reduceAdd, Int.reduceSub, Int.reduceMul, kAgg, scD, List.all_cons, List.all_nil]
    exact ⟨rfl, rfl⟩
  intro k hk
  simp only [lt_nat, syls, List.length_map, hc, bne_self_eq_false, word, nums, nats, zv, nv, bv, sv, beq_self_eq_true, VL, VB, BEq.rfl, V1, V2, V3, V4, V5, V6, V7, V8, V9, V10, V11, V12, V13, VE, Nat.reduceBEq, Nat.reduceAdd, Nat.reduceSub, Nat.reduceMul, Nat.reduceLeDiff, Nat.reduceLT, Nat.reduceEqDiff, Int.reduceBEq, Int.reduceBNe, Int.reduceLT, Int.reduceLE, Int.reduceAdd, Int.reduceSub, Int.reduceMul, kAgg, scD, List.all_cons, List.all_nil]
  refine guardB.mk (fun h => ?_) (fun h => ?_)
  · have hk' : k < ss.length := by simpa using h
    clear h
    have e0 : (0 : Int) ≤ (k : Int) := Int.natCast_nonneg k
    have h1 := hbeg k hk'
    obtain ⟨g1, g2, g3⟩ := hfac k hk'
    obtain ⟨g4, g5, g6, g7, g8, g9⟩ := hins k hk'
    have hat : atN ss (k + 1) = (ss.getD k Syl.zero).e := rfl
    have hgs := getD_syl ss k hk'
    obtain ⟨s, hs⟩ : ∃ s, ss.getD k Syl.zero = s := ⟨_, rfl⟩
    rw [hs] at h1 g1 g2 g3 g4 g5 g6 g7 g8 g9 hat hgs
    have f1 : decide ((s.e : Int) ≤ (s.b : Int)) = false := decide_eq_false (by omega)
    have f2 : decide ((w.length : Int) < (s.e : Int)) = false := decide_eq_false (by omega)
    have f3 : decide ((s.a : Int) < (s.b : Int)) = false := decide_eq_false (by omega)
    have f4 : decide ((s.e : Int) < (s.a : Int)) = false := decide_eq_false (by omega)
    rw [← h1]
    simp only [e0, hk', hgs, syl_def, f1, f2, f3, f4, syls, List.length_map, hc, bne_self_eq_false, word, nums, nats, zv, nv, bv, sv, beq_self_eq_true, VL, VB, BEq.rfl, V1, V2, V3, V4, V5, V6, V7, V8, V9, V10, V11, V12, V13, VE, Nat.reduceBEq, Nat.reduceAdd, Nat.reduceSub, Nat.reduceMul, Nat.reduceLeDiff, Nat.reduceLT, Nat.reduceEqDiff, Int.reduceBEq, Int.reduceBNe, Int.reduceLT, Int.reduceLE, Int.reduceAdd, Int.reduceSub, Int.reduceMul, kAgg, scD, List.all_cons, List.all_nil]
    refine guardB.mk (fun h => ?_) (fun h => ?_)
    · have hae : s.a = s.e := by
        have : (s.a : Int) = s.e := by simpa using h
        omega
      obtain ⟨g21, g22⟩ := g2 hae
      have f5 : decide ((0 : Int) < (np : Int)) = false := decide_eq_false (by omega)
      have f6 : ((s.c : Int) != (s.e : Int)) = false := by rw [g22]; simp
      simp only [f5, f6, wrap_nat (k := k) (by omega), syls, List.length_map, hc, bne_self_eq_false, word, nums, nats, zv, nv, bv, sv, beq_self_eq_true, VL, VB, BEq.rfl, V1, V2, V3, V4, V5, V6, V7, V8, V9, V10, V11, V12, V13, VE, Nat.reduceBEq, Nat.reduceAdd, Nat.reduceSub, Nat.reduceMul, Nat.reduceLeDiff, Nat.reduceLT, Nat.reduceEqDiff, Int.reduceBEq, Int.reduceBNe, Int.reduceLT, Int.reduceLE, Int.reduceAdd, Int.reduceSub, Int.reduceMul, kAgg, scD, List.all_cons, List.all_nil]
      refine ⟨k + 1, Enter.mk [] [] [] ?_, by omega, by show ss.length - (k + 1) < ss.length - k; omega⟩
      simp only [hat, syls, List.length_map, hc, bne_self_eq_false, word, nums, nats, zv, nv, bv, sv, beq_self_eq_true, VL, VB, BEq.rfl, V1, V2, V3, V4, V5, V6, V7, V8, V9, V10, V11, V12, V13, VE, Nat.reduceBEq, Nat.reduceAdd, Nat.reduceSub, Nat.reduceMul, Nat.reduceLeDiff, Nat.reduceLT, Nat.reduceEqDiff, Int.reduceBEq, Int.reduceBNe, Int.reduceLT, Int.reduceLE, Int.reduceAdd, Int.reduceSub, Int.reduceMul, kAgg, scD, List.all_cons, List.all_nil]
    · have hae : s.a ≠ s.e := by
        intro he
        rw [he] at h
        simp at h
      have hal : s.a < w.length := by omega
      have g3 := g3 hae
      have hca := g8 hae
      have hin := hw s.a
      have hsn := hson s.a hal
      have hgw := getD_snd w s.a hal
      obtain ⟨c, hc2⟩ : ∃ c, w.getD s.a Snd.zero = c := ⟨_, rfl⟩
      rw [hc2] at hin hsn hgw
      have hlv2 := Sonority_ok sc p c hsc hin
      rw [snd_def, hsn] at hlv2
      obtain ⟨n, hn⟩ : ∃ n, lv.getD s.a 0 = n := ⟨_, rfl⟩
      rw [hn] at hlv2 g3
      have e1 : (0 : Int) ≤ (s.a : Int) := Int.natCast_nonneg s.a
      have f5 : ((s.c : Int) != ((s.a + 1 : Nat) : Int)) = false := by rw [hca]; simp
      have f6 : decide ((n : Int) < p) = false := decide_eq_false (by omega)
      simp only [e1, hal, wrap_nat (k := s.a) (by omega), f5, hgw, snd_def, syls, List.length_map, hc, bne_self_eq_false, word, nums, nats, zv, nv, bv, sv, beq_self_eq_true, VL, VB, BEq.rfl, V1, V2, V3, V4, V5, V6, V7, V8, V9, V10, V11, V12, V13, VE, Nat.reduceBEq, Nat.reduceAdd, Nat.reduceSub, Nat.reduceMul, Nat.reduceLeDiff, Nat.reduceLT, Nat.reduceEqDiff, Int.reduceBEq, Int.reduceBNe, Int.reduceLT, Int.reduceLE, Int.reduceAdd, Int.reduceSub, Int.reduceMul, kAgg, scD, List.all_cons, List.all_nil]
      refine CallX.mk hlv2 rfl ?_
      simp only [f6, wrap_nat (k := k) (by omega), syls, List.length_map, hc, bne_self_eq_false, word, nums, nats, zv, nv, bv, sv, beq_self_eq_true, VL, VB, BEq.rfl, V1, V2, V3, V4, V5, V6, V7, V8, V9, V10, V11, V12, V13, VE, Nat.reduceBEq, Nat.reduceAdd, Nat.reduceSub, Nat.reduceMul, Nat.reduceLeDiff, Nat.reduceLT, Nat.reduceEqDiff, Int.reduceBEq, Int.reduceBNe, Int.reduceLT, Int.reduceLE, Int.reduceAdd, Int.reduceSub, Int.reduceMul, kAgg, scD, List.all_cons, List.all_nil]
      refine ⟨k + 1, Enter.mk [] [] [] ?_, by omega, by show ss.length - (k + 1) < ss.length - k; omega⟩
      simp only [hat, syls, List.length_map, hc, bne_self_eq_false, word, nums, nats, zv, nv, bv, sv, beq_self_eq_true, VL, VB, BEq.rfl, V1, V2, V3, V4, V5, V6, V7, V8, V9, V10, V11, V12, V13, VE, Nat.reduceBEq, Nat.reduceAdd, Nat.reduceSub, Nat.reduceMul, Nat.reduceLeDiff, Nat.reduceLT, Nat.reduceEqDiff, Int.reduceBEq, Int.reduceBNe, Int.reduceLT, Int.reduceLE, Int.reduceAdd, Int.reduceSub, Int.reduceMul, kAgg, scD, List.all_cons, List.all_nil]
  · have hk' : k = ss.length := by
      have : ¬ k < ss.length := by simpa using h
      omega
    subst hk'
    have f1 : ((atN ss ss.length : Int) != (w.length : Int)) = false := by rw [hend, hlv]; simp
    have f2 : ((ss.length : Int) == bif decide ((np : Int) < bif decide ((w.length : Int) < 1) then (w.length : Int) else 1) then (bif decide ((w.length : Int) < 1) then (w.length : Int) else 1) else (np : Int)) = true := by
      rw [hnum, hlv]
      by_cases hw0 : w.length = 0
      · have hn0 : np = 0 := by omega
        rw [hw0, hn0]; rfl
      · rw [decide_eq_false (show ¬ (w.length : Int) < 1 by omega), cond_false, if_neg hw0]
        by_cases hn0 : np = 0
        · rw [hn0]; rfl
        · rw [if_neg hn0, decide_eq_false (show ¬ (np : Int) < 1 by omega), cond_false, beq_self_eq_true]
    simp only [f1, f2, syls, List.length_map, hc, bne_self_eq_false, word, nums, nats, zv, nv, bv, sv, beq_self_eq_true, VL, VB, BEq.rfl, V1, V2, V3, V4, V5, V6, V7, V8, V9, V10, V11, V12, V13, VE, Nat.reduceBEq, Nat.reduceAdd, Nat.reduceSub, Nat.reduceMul, Nat.reduceLeDiff, Nat.reduceLT, Nat.reduceEqDiff, Int.reduceBEq, Int.reduceBNe, Int.reduceLT, Int.reduceLE, Int.reduceAdd, Int.reduceSub, Int.reduceMul, kAgg, scD, List.all_cons, List.all_nil]
    refine CallX.mk works_ok rfl ?_
    simp only [syls, List.length_map, hc, bne_self_eq_false, word, nums, nats, zv, nv, bv, sv, beq_self_eq_true, VL, VB, BEq.rfl, V1, V2, V3, V4, V5, V6, V7, V8, V9, V10, V11, V12, V13, VE, Nat.reduceBEq, Nat.reduceAdd, Nat.reduceSub, Nat.reduceMul, Nat.reduceLeDiff, Nat.reduceLT, Nat.reduceEqDiff, Int.reduceBEq, Int.reduceBNe, Int.reduceLT, Int.reduceLE, Int.reduceAdd, Int.reduceSub, Int.reduceMul, kAgg, scD, List.all_cons, List.all_nil]
end Go.Cp
namespace Go.Proofs.Ytmiieofmhncfbaa
open Go Go.Proofs Go.RowKit Go.ChangeShapes Go.WideShapes Go.ChangeAt Go.Vx Go.Cp

theorem syllCovers_lifted (os : Os) (started : os.Started) (H : Type) (enc : TypeId × Value → H) :
    ReturnsInHanded {} Try.checked os 7 .any (Rows.syllCoversSpec.pre6 enc Try.prog Try.f7 Rows.syllCoversRow.domain false) (Rows.syllCoversSpec.post enc Try.prog Try.f7 false true false false) := by
  refine law_lifted (m := 8) (tb := 4) os started H enc own laid (by kernel_rfl) Try.func7 rfl Try.underlying4 rfl ?_ (by kernel_rfl) (by kernel_rfl)
    (ChangeSpec.witness6 (enc := enc) (C := Try.checked) false ⟨#[], #[.agg #[.slice none 0 0, .int .i64 0], .slice none 0 0], []⟩ 8 (by kernel_rfl) (by kernel_rfl) (by kernel_rfl) (by kernel_rfl)) ?_
  · rw [Try.params7]
    intro ds hd
    match ds, hd with
    | [d1, d2], _ => exact ⟨rfl, rfl, rfl⟩
  · rw [Try.params7]
    intro dss h
    obtain ⟨x1, x2, rfl, h1, h2⟩ := typedL2 h
    obtain ⟨sc, p, rfl, hsc⟩ := typed_rule (m := 4) h1
    obtain ⟨w, rfl, hw⟩ := typed_word (m := 5) h2
    simp only [argsAV, argAV, Try.underlying22, Try.underlying24]
    exact covers_law sc p w hsc hw

theorem syllCovers_holds : Rows.SyllCoversSaid :=
  OpenClaim.holds_of_wide 7 Try.f7 rfl rfl rfl rfl rfl rfl rfl ⟨rfl, rfl, rfl, rfl, rfl⟩ rfl rfl rfl rfl rfl (by kernel_rfl) Try.func7 (by kernel_rfl)
    (of_decide_eq_true (by kernel_rfl)) (by unfold Func.isWrapper; first | (rw [if_pos (by decide +kernel)]; kernel_rfl) | (rw [if_neg (by decide +kernel)]; exact ⟨rfl, rfl⟩))
    (fun os started H enc _ => syllCovers_lifted os started H enc)
#print axioms syllCovers_holds

end Go.Proofs.Ytmiieofmhncfbaa
