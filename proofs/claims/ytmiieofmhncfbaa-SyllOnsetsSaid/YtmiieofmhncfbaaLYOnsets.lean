/-
  SyllOnsets returns true for every input: in each syllable but the first one the sonority rises strictly up to the nucleus; with the sound before it, it would not, or this sound is a peak. Conditions: none.
-/
import Derived.Test.YtmiieofmhncfbaaMJ
import Derived.Test.YtmiieofmhncfbaaMP
set_option linter.unusedVariables false
set_option linter.unusedSimpArgs false
set_option maxHeartbeats 8000000
set_option maxRecDepth 100000
namespace Go.Cp
open Go Go.Proofs Go.Vx

theorem onsets_law (sc : List Snd) (p : Int) (w : List Snd) (hsc : AllIn sc) (hw : AllIn w) : Ok Try.prog E 8 [.ag (ruleD sc p), .c (word w)] (bv true) := by
  refine ok_of_vc (L := [(13, [(5, 6), (5, 10), (5, 11)])]) (ts := [4]) envOK mixed Try.func8 rfl (by kernel_rfl) rfl (by kernel_rfl) rfl fun hl => ?_
  simp only [Try.f8, word, nums, nats, zv, nv, bv, sv, beq_self_eq_true, VL, VB, BEq.rfl, V1, V2, V3, V4, V5, V6, V7, V8, V9, V10, V11, V12, V13, VE, Nat.reduceBEq, Nat.reduceAdd, Nat.reduceSub, Nat.reduceMul, Nat.reduceLeDiff, Nat.reduceLT, Nat.reduceEqDiff, Int.reduceBEq, Int.reduceBNe, Int.reduceLT, Int.reduceLE, Int.reduceAdd, Int.reduceSub, Int.reduceMul, kAgg, scD, List.all_cons, List.all_nil]
  refine CallX.mk (Split_ok sc p w hsc hw) rfl ?_
  by_cases hc : checkE sc p [w] = 0
  case neg =>
    have h1 : (checkE sc p [w] != 0) = true := by simpa using hc
    simp only [h1, syls, word, nums, nats, zv, nv, bv, sv, beq_self_eq_true, VL, VB, BEq.rfl, V1, V2, V3, V4, V5, V6, V7, V8, V9, V10, V11, V12, V13, VE, Nat.reduceBEq, Nat.reduceAdd, Nat.reduceSub, Nat.reduceMul, Nat.reduceLeDiff, Nat.reduceLT, Nat.reduceEqDiff, Int.reduceBEq, Int.reduceBNe, Int.reduceLT, Int.reduceLE, Int.reduceAdd, Int.reduceSub, Int.reduceMul, kAgg, scD, List.all_cons, List.all_nil]
    refine CallX.mk works_ok rfl ?_
    simp only [word, nums, nats, zv, nv, bv, sv, beq_self_eq_true, VL, VB, BEq.rfl, V1, V2, V3, V4, V5, V6, V7, V8, V9, V10, V11, V12, V13, VE, Nat.reduceBEq, Nat.reduceAdd, Nat.reduceSub, Nat.reduceMul, Nat.reduceLeDiff, Nat.reduceLT, Nat.reduceEqDiff, Int.reduceBEq, Int.reduceBNe, Int.reduceLT, Int.reduceLE, Int.reduceAdd, Int.reduceSub, Int.reduceMul, kAgg, scD, List.all_cons, List.all_nil]
  obtain ⟨hr, hwl⟩ := checkE_zero hc
  have hss : splitS sc p w = splitL p (lev sc w) := by rw [splitS, if_pos hc]
  have hson : ∀ i, i < w.length → sonN sc p (w.getD i Snd.zero) = (lev sc w).getD i 0 := fun i hi => by rw [lev_at hi, sonN, if_pos hr]
  have hlv := lev_len sc w
  rw [hss]
  revert hson hlv
  generalize lev sc w = lv
  intro hson hlv
  have hon := fun k (hk : k + 1 < (splitL p lv).length) => split_onset hk _ rfl
  have hsl := splitL_len p lv
  revert hon hsl
  generalize splitL p lv = ss
  intro hon hsl
  simp only [syls, List.length_map, hc, bne_self_eq_false, word, nums, nats, zv, nv, bv, sv, beq_self_eq_true, VL, VB, BEq.rfl, V1, V2, V3, V4, V5, V6, V7, V8, V9, V10, V11, V12, V13, VE, Nat.reduceBEq, Nat.reduceAdd, Nat.reduceSub, Nat.reduceMul, Nat.reduceLeDiff, Nat.reduceLT, Nat.reduceEqDiff, Int.reduceBEq, Int.reduceBNe, Int.reduceLT, Int.reduceLE, Int.reduceAdd, Int.reduceSub, Int.reduceMul, kAgg, scD, List.all_cons, List.all_nil]
  refine LoopVC.mk (Y := Nat) (fun k => k ≤ ss.length) (fun k => ⟨[(1, .c (word w)), (2, .bp 2 0), (5, .c (syls ss)), (7, nv (k + 1))], [(2, .cells [.c (word sc), zv p])]⟩) (fun k => ss.length - k) ⟨0, Enter.mk [] [] [] ?_, by omega⟩ ?_
  · simp only [syls, List.length_map, hc, bne_self_eq_false, word, nums, nats, zv, nv, bv, sv, beq_self_eq_true, VL, VB, BEq.rfl, V1, V2, V3, V4, V5, V6, V7, V8, V9, V10, V11, V12, V13, VE, Nat.reduceBEq, Nat.reduceAdd, Nat.reduceSub, Nat.reduceMul, Nat.reduceLeDiff, Nat.reduceLT, Nat.reduceEqDiff, Int.reduceBEq, Int.reduceBNe, Int.reduceLT, Int.reduceLE, Int.reduceAdd, Int.reduceSub, Int.reduceMul, kAgg, scD, List.all_cons, List.all_nil]
    exact rfl
  intro k hk
  simp only [lt_nat, syls, List.length_map, hc, bne_self_eq_false, word, nums, nats, zv, nv, bv, sv, beq_self_eq_true, VL, VB, BEq.rfl, V1, V2, V3, V4, V5, V6, V7, V8, V9, V10, V11, V12, V13, VE, Nat.reduceBEq, Nat.reduceAdd, Nat.reduceSub, Nat.reduceMul, Nat.reduceLeDiff, Nat.reduceLT, Nat.reduceEqDiff, Int.reduceBEq, Int.reduceBNe, Int.reduceLT, Int.reduceLE, Int.reduceAdd, Int.reduceSub, Int.reduceMul, kAgg, scD, List.all_cons, List.all_nil]
  refine guardB.mk (fun h => ?_) (fun h => ?_)
  · have hk' : k + 1 < ss.length := by simpa using h
    clear h
    have e0 : (0 : Int) ≤ ((k + 1 : Nat) : Int) := Int.natCast_nonneg _
    obtain ⟨g1, g2, g3, g4, g5⟩ := hon k hk'
    have hgs := getD_syl ss (k + 1) hk'
    obtain ⟨s, hs⟩ : ∃ s, ss.getD (k + 1) Syl.zero = s := ⟨_, rfl⟩
    rw [hs] at g1 g2 g3 g4 g5 hgs
    have f1 : decide ((s.b : Int) < 1) = false := decide_eq_false (by omega)
    have f2 : decide ((s.a : Int) < (s.b : Int)) = false := decide_eq_false (by omega)
    have f3 : decide ((w.length : Int) ≤ (s.a : Int)) = false := decide_eq_false (by omega)
    simp only [e0, hk', hgs, syl_def, f1, f2, f3, wrap_nat (k := s.b) (by omega), syls, List.length_map, hc, bne_self_eq_false, word, nums, nats, zv, nv, bv, sv, beq_self_eq_true, VL, VB, BEq.rfl, V1, V2, V3, V4, V5, V6, V7, V8, V9, V10, V11, V12, V13, VE, Nat.reduceBEq, Nat.reduceAdd, Nat.reduceSub, Nat.reduceMul, Nat.reduceLeDiff, Nat.reduceLT, Nat.reduceEqDiff, Int.reduceBEq, Int.reduceBNe, Int.reduceLT, Int.reduceLE, Int.reduceAdd, Int.reduceSub, Int.reduceMul, kAgg, scD, List.all_cons, List.all_nil]
    refine LoopVC.mk (Y := Nat) (fun i => s.b ≤ i ∧ i ≤ s.a) (fun i => ⟨[(1, .c (word w)), (2, .bp 2 0), (5, .c (syls ss)), (7, nv (k + 1)), (8, .bp 8 0), (9, nv (i + 1))], [(2, .cells [.c (word sc), zv p]), (8, .cells [nv s.b, nv s.a, nv s.c, nv s.e])]⟩) (fun i => s.a - i) ⟨s.b, Enter.mk [] [] [] ?_, by omega⟩ ?_
    · simp only [syls, List.length_map, hc, bne_self_eq_false, word, nums, nats, zv, nv, bv, sv, beq_self_eq_true, VL, VB, BEq.rfl, V1, V2, V3, V4, V5, V6, V7, V8, V9, V10, V11, V12, V13, VE, Nat.reduceBEq, Nat.reduceAdd, Nat.reduceSub, Nat.reduceMul, Nat.reduceLeDiff, Nat.reduceLT, Nat.reduceEqDiff, Int.reduceBEq, Int.reduceBNe, Int.reduceLT, Int.reduceLE, Int.reduceAdd, Int.reduceSub, Int.reduceMul, kAgg, scD, List.all_cons, List.all_nil]
    rintro i ⟨hi1, hi2⟩
    simp only [le_nat, syls, List.length_map, hc, bne_self_eq_false, word, nums, nats, zv, nv, bv, sv, beq_self_eq_true, VL, VB, BEq.rfl, V1, V2, V3, V4, V5, V6, V7, V8, V9, V10, V11, V12, V13, VE, Nat.reduceBEq, Nat.reduceAdd, Nat.reduceSub, Nat.reduceMul, Nat.reduceLeDiff, Nat.reduceLT, Nat.reduceEqDiff, Int.reduceBEq, Int.reduceBNe, Int.reduceLT, Int.reduceLE, Int.reduceAdd, Int.reduceSub, Int.reduceMul, kAgg, scD, List.all_cons, List.all_nil]
    refine guardB.mk (fun h => ?_) (fun h => ?_)
    · have hi' : i + 1 ≤ s.a := by simpa using h
      clear h
      have e1 : (0 : Int) ≤ ((i + 1 : Nat) : Int) := Int.natCast_nonneg _
      have e2 : (0 : Int) ≤ (i : Int) := Int.natCast_nonneg _
      have e3 : IntKind.i64.wrap (((i + 1 : Nat) : Int) - 1) = (i : Int) := by rw [wrap_in (by omega) (by omega)]; omega
      have hl1 : i + 1 < w.length := by omega
      have hl2 : i < w.length := by omega
      have hrise := g4 (i + 1) (by omega) hi'
      rw [Nat.add_sub_cancel, ← hson _ hl1, ← hson _ hl2] at hrise
      have hin1 := hw (i + 1)
      have hin2 := hw i
      have hg1 := getD_snd w (i + 1) hl1
      have hg2 := getD_snd w i hl2
      obtain ⟨c1, hc1⟩ : ∃ c, w.getD (i + 1) Snd.zero = c := ⟨_, rfl⟩
      obtain ⟨c2, hc2⟩ : ∃ c, w.getD i Snd.zero = c := ⟨_, rfl⟩
      rw [hc1] at hin1 hg1 hrise
      rw [hc2] at hin2 hg2 hrise
      have ho1 := Sonority_ok sc p c1 hsc hin1
      have ho2 := Sonority_ok sc p c2 hsc hin2
      rw [snd_def] at ho1 ho2
      obtain ⟨n1, hn1⟩ : ∃ n, sonN sc p c1 = n := ⟨_, rfl⟩
      obtain ⟨n2, hn2⟩ : ∃ n, sonN sc p c2 = n := ⟨_, rfl⟩
      rw [hn1] at ho1 hrise
      rw [hn2] at ho2 hrise
      have f4 : decide ((n1 : Int) ≤ (n2 : Int)) = false := decide_eq_false (by omega)
      simp only [e1, hl1, hg1, snd_def, syls, List.length_map, hc, bne_self_eq_false, word, nums, nats, zv, nv, bv, sv, beq_self_eq_true, VL, VB, BEq.rfl, V1, V2, V3, V4, V5, V6, V7, V8, V9, V10, V11, V12, V13, VE, Nat.reduceBEq, Nat.reduceAdd, Nat.reduceSub, Nat.reduceMul, Nat.reduceLeDiff, Nat.reduceLT, Nat.reduceEqDiff, Int.reduceBEq, Int.reduceBNe, Int.reduceLT, Int.reduceLE, Int.reduceAdd, Int.reduceSub, Int.reduceMul, kAgg, scD, List.all_cons, List.all_nil]
      refine CallX.mk ho1 rfl ?_
      simp only [e2, e3, hl2, hg2, snd_def, syls, List.length_map, hc, bne_self_eq_false, word, nums, nats, zv, nv, bv, sv, beq_self_eq_true, VL, VB, BEq.rfl, V1, V2, V3, V4, V5, V6, V7, V8, V9, V10, V11, V12, V13, VE, Nat.reduceBEq, Nat.reduceAdd, Nat.reduceSub, Nat.reduceMul, Nat.reduceLeDiff, Nat.reduceLT, Nat.reduceEqDiff, Int.reduceBEq, Int.reduceBNe, Int.reduceLT, Int.reduceLE, Int.reduceAdd, Int.reduceSub, Int.reduceMul, kAgg, scD, List.all_cons, List.all_nil]
      refine CallX.mk ho2 rfl ?_
      simp only [f4, wrap_nat (k := i + 1) (by omega), syls, List.length_map, hc, bne_self_eq_false, word, nums, nats, zv, nv, bv, sv, beq_self_eq_true, VL, VB, BEq.rfl, V1, V2, V3, V4, V5, V6, V7, V8, V9, V10, V11, V12, V13, VE, Nat.reduceBEq, Nat.reduceAdd, Nat.reduceSub, Nat.reduceMul, Nat.reduceLeDiff, Nat.reduceLT, Nat.reduceEqDiff, Int.reduceBEq, Int.reduceBNe, Int.reduceLT, Int.reduceLE, Int.reduceAdd, Int.reduceSub, Int.reduceMul, kAgg, scD, List.all_cons, List.all_nil]
      refine ⟨i + 1, Enter.mk [] [] [] ?_, ⟨by omega, by omega⟩, by show s.a - (i + 1) < s.a - i; omega⟩
      simp only [syls, List.length_map, hc, bne_self_eq_false, word, nums, nats, zv, nv, bv, sv, beq_self_eq_true, VL, VB, BEq.rfl, V1, V2, V3, V4, V5, V6, V7, V8, V9, V10, V11, V12, V13, VE, Nat.reduceBEq, Nat.reduceAdd, Nat.reduceSub, Nat.reduceMul, Nat.reduceLeDiff, Nat.reduceLT, Nat.reduceEqDiff, Int.reduceBEq, Int.reduceBNe, Int.reduceLT, Int.reduceLE, Int.reduceAdd, Int.reduceSub, Int.reduceMul, kAgg, scD, List.all_cons, List.all_nil]
    · have hlb : s.b - 1 < w.length := by omega
      have e1 : (0 : Int) ≤ ((s.b - 1 : Nat) : Int) := Int.natCast_nonneg _
      have e3 : IntKind.i64.wrap ((s.b : Int) - 1) = ((s.b - 1 : Nat) : Int) := by rw [wrap_in (by omega) (by omega)]; omega
      have hl2 : s.b < w.length := by omega
      rw [← hson _ hlb, ← hson _ hl2] at g5
      have hin1 := hw (s.b - 1)
      have hin2 := hw s.b
      have hg1 := getD_snd w (s.b - 1) hlb
      have hg2 := getD_snd w s.b hl2
      obtain ⟨c1, hc1⟩ : ∃ c, w.getD (s.b - 1) Snd.zero = c := ⟨_, rfl⟩
      obtain ⟨c2, hc2⟩ : ∃ c, w.getD s.b Snd.zero = c := ⟨_, rfl⟩
      rw [hc1] at hin1 hg1 g5
      rw [hc2] at hin2 hg2 g5
      have ho1 := Sonority_ok sc p c1 hsc hin1
      have ho2 := Sonority_ok sc p c2 hsc hin2
      rw [snd_def] at ho1 ho2
      obtain ⟨n1, hn1⟩ : ∃ n, sonN sc p c1 = n := ⟨_, rfl⟩
      obtain ⟨n2, hn2⟩ : ∃ n, sonN sc p c2 = n := ⟨_, rfl⟩
      rw [hn1] at ho1 g5
      rw [hn2] at ho2 g5
      simp only [e1, e3, hlb, hg1, snd_def, syls, List.length_map, hc, bne_self_eq_false, word, nums, nats, zv, nv, bv, sv, beq_self_eq_true, VL, VB, BEq.rfl, V1, V2, V3, V4, V5, V6, V7, V8, V9, V10, V11, V12, V13, VE, Nat.reduceBEq, Nat.reduceAdd, Nat.reduceSub, Nat.reduceMul, Nat.reduceLeDiff, Nat.reduceLT, Nat.reduceEqDiff, Int.reduceBEq, Int.reduceBNe, Int.reduceLT, Int.reduceLE, Int.reduceAdd, Int.reduceSub, Int.reduceMul, kAgg, scD, List.all_cons, List.all_nil]
      refine CallX.mk ho1 rfl ?_
      simp only [syls, List.length_map, hc, bne_self_eq_false, word, nums, nats, zv, nv, bv, sv, beq_self_eq_true, VL, VB, BEq.rfl, V1, V2, V3, V4, V5, V6, V7, V8, V9, V10, V11, V12, V13, VE, Nat.reduceBEq, Nat.reduceAdd, Nat.reduceSub, Nat.reduceMul, Nat.reduceLeDiff, Nat.reduceLT, Nat.reduceEqDiff, Int.reduceBEq, Int.reduceBNe, Int.reduceLT, Int.reduceLE, Int.reduceAdd, Int.reduceSub, Int.reduceMul, kAgg, scD, List.all_cons, List.all_nil]
      have e2 : (0 : Int) ≤ (s.b : Int) := Int.natCast_nonneg _
      refine guardB.mk (fun h => ?_) (fun h => ?_)
      · have h1 : (n1 : Int) < p := by simpa using h
        have f4 : decide ((n1 : Int) < (n2 : Int)) = false := decide_eq_false (by omega)
        simp only [h, e2, hl2, hg2, snd_def, syls, List.length_map, hc, bne_self_eq_false, word, nums, nats, zv, nv, bv, sv, beq_self_eq_true, VL, VB, BEq.rfl, V1, V2, V3, V4, V5, V6, V7, V8, V9, V10, V11, V12, V13, VE, Nat.reduceBEq, Nat.reduceAdd, Nat.reduceSub, Nat.reduceMul, Nat.reduceLeDiff, Nat.reduceLT, Nat.reduceEqDiff, Int.reduceBEq, Int.reduceBNe, Int.reduceLT, Int.reduceLE, Int.reduceAdd, Int.reduceSub, Int.reduceMul, kAgg, scD, List.all_cons, List.all_nil]
        refine CallX.mk ho2 rfl ?_
        simp only [f4, wrap_nat (k := k + 1) (by omega), syls, List.length_map, hc, bne_self_eq_false, word, nums, nats, zv, nv, bv, sv, beq_self_eq_true, VL, VB, BEq.rfl, V1, V2, V3, V4, V5, V6, V7, V8, V9, V10, V11, V12, V13, VE, Nat.reduceBEq, Nat.reduceAdd, Nat.reduceSub, Nat.reduceMul, Nat.reduceLeDiff, Nat.reduceLT, Nat.reduceEqDiff, Int.reduceBEq, Int.reduceBNe, Int.reduceLT, Int.reduceLE, Int.reduceAdd, Int.reduceSub, Int.reduceMul, kAgg, scD, List.all_cons, List.all_nil]
        refine ⟨k + 1, Enter.mk [] [] [] ?_, by omega, by show ss.length - (k + 1) < ss.length - k; omega⟩
        simp only [syls, List.length_map, hc, bne_self_eq_false, word, nums, nats, zv, nv, bv, sv, beq_self_eq_true, VL, VB, BEq.rfl, V1, V2, V3, V4, V5, V6, V7, V8, V9, V10, V11, V12, V13, VE, Nat.reduceBEq, Nat.reduceAdd, Nat.reduceSub, Nat.reduceMul, Nat.reduceLeDiff, Nat.reduceLT, Nat.reduceEqDiff, Int.reduceBEq, Int.reduceBNe, Int.reduceLT, Int.reduceLE, Int.reduceAdd, Int.reduceSub, Int.reduceMul, kAgg, scD, List.all_cons, List.all_nil]
      · simp only [h, wrap_nat (k := k + 1) (by omega), syls, List.length_map, hc, bne_self_eq_false, word, nums, nats, zv, nv, bv, sv, beq_self_eq_true, VL, VB, BEq.rfl, V1, V2, V3, V4, V5, V6, V7, V8, V9, V10, V11, V12, V13, VE, Nat.reduceBEq, Nat.reduceAdd, Nat.reduceSub, Nat.reduceMul, Nat.reduceLeDiff, Nat.reduceLT, Nat.reduceEqDiff, Int.reduceBEq, Int.reduceBNe, Int.reduceLT, Int.reduceLE, Int.reduceAdd, Int.reduceSub, Int.reduceMul, kAgg, scD, List.all_cons, List.all_nil]
        refine ⟨k + 1, Enter.mk [] [] [] ?_, by omega, by show ss.length - (k + 1) < ss.length - k; omega⟩
        simp only [syls, List.length_map, hc, bne_self_eq_false, word, nums, nats, zv, nv, bv, sv, beq_self_eq_true, VL, VB, BEq.rfl, V1, V2, V3, V4, V5, V6, V7, V8, V9, V10, V11, V12, V13, VE, Nat.reduceBEq, Nat.reduceAdd, Nat.reduceSub, Nat.reduceMul, Nat.reduceLeDiff, Nat.reduceLT, Nat.reduceEqDiff, Int.reduceBEq, Int.reduceBNe, Int.reduceLT, Int.reduceLE, Int.reduceAdd, Int.reduceSub, Int.reduceMul, kAgg, scD, List.all_cons, List.all_nil]
  · simp only [h, syls, List.length_map, hc, bne_self_eq_false, word, nums, nats, zv, nv, bv, sv, beq_self_eq_true, VL, VB, BEq.rfl, V1, V2, V3, V4, V5, V6, V7, V8, V9, V10, V11, V12, V13, VE, Nat.reduceBEq, Nat.reduceAdd, Nat.reduceSub, Nat.reduceMul, Nat.reduceLeDiff, Nat.reduceLT, Nat.reduceEqDiff, Int.reduceBEq, Int.reduceBNe, Int.reduceLT, Int.reduceLE, Int.reduceAdd, Int.reduceSub, Int.reduceMul, kAgg, scD, List.all_cons, List.all_nil]
    refine CallX.mk works_ok rfl ?_
    simp only [syls, List.length_map, hc, bne_self_eq_false, word, nums, nats, zv, nv, bv, sv, beq_self_eq_true, VL, VB, BEq.rfl, V1, V2, V3, V4, V5, V6, V7, V8, V9, V10, V11, V12, V13, VE, Nat.reduceBEq, Nat.reduceAdd, Nat.reduceSub, Nat.reduceMul, Nat.reduceLeDiff, Nat.reduceLT, Nat.reduceEqDiff, Int.reduceBEq, Int.reduceBNe, Int.reduceLT, Int.reduceLE, Int.reduceAdd, Int.reduceSub, Int.reduceMul, kAgg, scD, List.all_cons, List.all_nil]
end Go.Cp
namespace Go.Proofs.Ytmiieofmhncfbaa
open Go Go.Proofs Go.RowKit Go.ChangeShapes Go.WideShapes Go.ChangeAt Go.Vx Go.Cp

theorem syllOnsets_lifted (os : Os) (started : os.Started) (H : Type) (enc : TypeId × Value → H) :
    ReturnsInHanded {} Try.checked os 8 .any (Rows.syllOnsetsSpec.pre6 enc Try.prog Try.f8 Rows.syllOnsetsRow.domain false) (Rows.syllOnsetsSpec.post enc Try.prog Try.f8 false true false false) := by
  refine law_lifted (m := 8) (tb := 4) os started H enc own laid (by kernel_rfl) Try.func8 rfl Try.underlying4 rfl ?_ (by kernel_rfl) (by kernel_rfl)
    (ChangeSpec.witness6 (enc := enc) (C := Try.checked) false ⟨#[], #[.agg #[.slice none 0 0, .int .i64 0], .slice none 0 0], []⟩ 8 (by kernel_rfl) (by kernel_rfl) (by kernel_rfl) (by kernel_rfl)) ?_
  · rw [Try.params8]
    intro ds hd
    match ds, hd with
    | [d1, d2], _ => exact ⟨rfl, rfl, rfl⟩
  · rw [Try.params8]
    intro dss h
    obtain ⟨x1, x2, rfl, h1, h2⟩ := typedL2 h
    obtain ⟨sc, p, rfl, hsc⟩ := typed_rule (m := 4) h1
    obtain ⟨w, rfl, hw⟩ := typed_word (m := 5) h2
    simp only [argsAV, argAV, Try.underlying22, Try.underlying24]
    exact onsets_law sc p w hsc hw

theorem syllOnsets_holds : Rows.SyllOnsetsSaid :=
  OpenClaim.holds_of_wide 8 Try.f8 rfl rfl rfl rfl rfl rfl rfl ⟨rfl, rfl, rfl, rfl, rfl⟩ rfl rfl rfl rfl rfl (by kernel_rfl) Try.func8 (by kernel_rfl)
    (of_decide_eq_true (by kernel_rfl)) (by unfold Func.isWrapper; first | (rw [if_pos (by decide +kernel)]; kernel_rfl) | (rw [if_neg (by decide +kernel)]; exact ⟨rfl, rfl⟩))
    (fun os started H enc _ => syllOnsets_lifted os started H enc)
#print axioms syllOnsets_holds

end Go.Proofs.Ytmiieofmhncfbaa
