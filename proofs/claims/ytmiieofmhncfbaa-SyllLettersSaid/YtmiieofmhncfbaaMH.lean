/-
  Syll: the program's Heavy and Stress, given its Split. Conditions: none.
  Syll: the given sounds and the given rule. Conditions: none.
  Syll: the program's Shape, given strings.Join. Conditions: none.
  Syll: the parts of a shape, joined; the program's Shape, given strings.Join. Conditions: none.
  Syll: the program's Split. Conditions: none.
-/
import Derived.Test.YtmiieofmhncfbaaMG
import Derived.Test.YtmiieofmhncfbaaMC
import Derived.Lib.Join

section
set_option linter.unusedVariables false
set_option linter.unusedSimpArgs false
set_option maxHeartbeats 4000000
set_option maxRecDepth 10000
namespace Go.Cp
open Go Go.Proofs Go.Vx

def stBx (hv : List Bool) : List (Nat × Box) := [(2001, .cells [nv hv.length]), (2002, .cells [.c (bols hv)])]
theorem up_ok (hv : List Bool) (hn : hv.length ≤ 32) : OkM Try.prog E 42 [zv 0, zv 1, zv 0, .bp 2001 0, .bp 2002 0] (stBx hv) (nv (firstH hv)) (stBx hv) := by
  refine okM_of_vc (L := []) (ts := [8]) envOK mixed Try.func42 rfl (by kernel_rfl) rfl (by decide) (by kernel_rfl) rfl fun hl hlb => ?_
  simp only [Try.f42, stBx, bols, word, nums, nats, zv, nv, bv, sv, VL, VB, BEq.rfl, V1, V2, V3, V4, V5, V6, V7, V8, V9, V10, V11, V12, V13, VE, Nat.reduceBEq, Nat.reduceAdd, Nat.reduceSub, Nat.reduceMul, Nat.reduceLeDiff, Nat.reduceLT, Nat.reduceEqDiff, Int.reduceBEq, Int.reduceBNe, Int.reduceLT, Int.reduceLE, Int.reduceAdd, Int.reduceSub, Int.reduceMul, kAgg, scD, List.all_cons, List.all_nil]
  refine LoopVC.mk (Y := Nat) (fun k => k ≤ hv.length ∧ (hv.take k).any id = false) (fun k => ⟨[(1, zv 1), (2, zv 0), (3, .bp 2001 0), (4, .bp 2002 0), (9, nv k)], [(2001, .cells [nv hv.length]), (2002, .cells [.c (bols hv)])]⟩) (fun k => hv.length - k) ⟨0, Enter.mk [] [] [] ?_, by omega, rfl⟩ ?_
  · simp only [bols, word, nums, nats, zv, nv, bv, sv, VL, VB, BEq.rfl, V1, V2, V3, V4, V5, V6, V7, V8, V9, V10, V11, V12, V13, VE, Nat.reduceBEq, Nat.reduceAdd, Nat.reduceSub, Nat.reduceMul, Nat.reduceLeDiff, Nat.reduceLT, Nat.reduceEqDiff, Int.reduceBEq, Int.reduceBNe, Int.reduceLT, Int.reduceLE, Int.reduceAdd, Int.reduceSub, Int.reduceMul, kAgg, scD, List.all_cons, List.all_nil]
    exact rfl
  rintro k ⟨hk, hpre⟩
  have e0 : decide ((0 : Int) ≤ (k : Int)) = true := decide_eq_true (Int.natCast_nonneg k)
  simp only [e0, lt_nat, bols, word, nums, nats, zv, nv, bv, sv, VL, VB, BEq.rfl, V1, V2, V3, V4, V5, V6, V7, V8, V9, V10, V11, V12, V13, VE, Nat.reduceBEq, Nat.reduceAdd, Nat.reduceSub, Nat.reduceMul, Nat.reduceLeDiff, Nat.reduceLT, Nat.reduceEqDiff, Int.reduceBEq, Int.reduceBNe, Int.reduceLT, Int.reduceLE, Int.reduceAdd, Int.reduceSub, Int.reduceMul, kAgg, scD, List.all_cons, List.all_nil]
  refine guardB.mk (fun h => ?_) (fun h => ?_)
  · have hk' : k < hv.length := by simpa using h
    clear h
    have hts := any_take_succ hk'
    rw [hpre, Bool.false_or] at hts
    have hf := firstH_at hk' hpre
    have hgk := getD_bol hv k hk'
    obtain ⟨b, hb⟩ : ∃ b, hv.getD k false = b := ⟨_, rfl⟩
    rw [hb] at hgk hts hf
    simp only [hgk, bol_def, word, nums, nats, zv, nv, bv, sv, VL, VB, BEq.rfl, V1, V2, V3, V4, V5, V6, V7, V8, V9, V10, V11, V12, V13, VE, Nat.reduceBEq, Nat.reduceAdd, Nat.reduceSub, Nat.reduceMul, Nat.reduceLeDiff, Nat.reduceLT, Nat.reduceEqDiff, Int.reduceBEq, Int.reduceBNe, Int.reduceLT, Int.reduceLE, Int.reduceAdd, Int.reduceSub, Int.reduceMul, kAgg, scD, List.all_cons, List.all_nil]
    refine ⟨⟨Int.natCast_nonneg _, by omega⟩, ?_⟩
    cases b with
    | true =>
      simp only [hf rfl, word, nums, nats, zv, nv, bv, sv, VL, VB, BEq.rfl, V1, V2, V3, V4, V5, V6, V7, V8, V9, V10, V11, V12, V13, VE, Nat.reduceBEq, Nat.reduceAdd, Nat.reduceSub, Nat.reduceMul, Nat.reduceLeDiff, Nat.reduceLT, Nat.reduceEqDiff, Int.reduceBEq, Int.reduceBNe, Int.reduceLT, Int.reduceLE, Int.reduceAdd, Int.reduceSub, Int.reduceMul, kAgg, scD, List.all_cons, List.all_nil]
      refine Enter.mk [] [] [] ?_
      simp only [word, nums, nats, zv, nv, bv, sv, VL, VB, BEq.rfl, V1, V2, V3, V4, V5, V6, V7, V8, V9, V10, V11, V12, V13, VE, Nat.reduceBEq, Nat.reduceAdd, Nat.reduceSub, Nat.reduceMul, Nat.reduceLeDiff, Nat.reduceLT, Nat.reduceEqDiff, Int.reduceBEq, Int.reduceBNe, Int.reduceLT, Int.reduceLE, Int.reduceAdd, Int.reduceSub, Int.reduceMul, kAgg, scD, List.all_cons, List.all_nil]
    | false =>
      simp only [wrap_nat (k := k) (by omega), word, nums, nats, zv, nv, bv, sv, VL, VB, BEq.rfl, V1, V2, V3, V4, V5, V6, V7, V8, V9, V10, V11, V12, V13, VE, Nat.reduceBEq, Nat.reduceAdd, Nat.reduceSub, Nat.reduceMul, Nat.reduceLeDiff, Nat.reduceLT, Nat.reduceEqDiff, Int.reduceBEq, Int.reduceBNe, Int.reduceLT, Int.reduceLE, Int.reduceAdd, Int.reduceSub, Int.reduceMul, kAgg, scD, List.all_cons, List.all_nil]
      refine ⟨k + 1, Enter.mk [] [] [] ?_, ⟨by omega, hts⟩, by show hv.length - (k + 1) < hv.length - k; omega⟩
      simp only [bols, word, nums, nats, zv, nv, bv, sv, VL, VB, BEq.rfl, V1, V2, V3, V4, V5, V6, V7, V8, V9, V10, V11, V12, V13, VE, Nat.reduceBEq, Nat.reduceAdd, Nat.reduceSub, Nat.reduceMul, Nat.reduceLeDiff, Nat.reduceLT, Nat.reduceEqDiff, Int.reduceBEq, Int.reduceBNe, Int.reduceLT, Int.reduceLE, Int.reduceAdd, Int.reduceSub, Int.reduceMul, kAgg, scD, List.all_cons, List.all_nil]
  · have hk' : k = hv.length := by
      have : ¬ k < hv.length := by simpa using h
      omega
    rw [hk', List.take_length] at hpre
    have hf : firstH hv = 0 := by rw [firstH, hpre]; rfl
    simp only [hf, word, nums, nats, zv, nv, bv, sv, VL, VB, BEq.rfl, V1, V2, V3, V4, V5, V6, V7, V8, V9, V10, V11, V12, V13, VE, Nat.reduceBEq, Nat.reduceAdd, Nat.reduceSub, Nat.reduceMul, Nat.reduceLeDiff, Nat.reduceLT, Nat.reduceEqDiff, Int.reduceBEq, Int.reduceBNe, Int.reduceLT, Int.reduceLE, Int.reduceAdd, Int.reduceSub, Int.reduceMul, kAgg, scD, List.all_cons, List.all_nil]
    refine Enter.mk [] [] [] ?_
    simp only [word, nums, nats, zv, nv, bv, sv, VL, VB, BEq.rfl, V1, V2, V3, V4, V5, V6, V7, V8, V9, V10, V11, V12, V13, VE, Nat.reduceBEq, Nat.reduceAdd, Nat.reduceSub, Nat.reduceMul, Nat.reduceLeDiff, Nat.reduceLT, Nat.reduceEqDiff, Int.reduceBEq, Int.reduceBNe, Int.reduceLT, Int.reduceLE, Int.reduceAdd, Int.reduceSub, Int.reduceMul, kAgg, scD, List.all_cons, List.all_nil]
    exact rfl
theorem down_ok (hv : List Bool) (hn : hv.length ≤ 32) (h0 : 0 < hv.length) : OkM Try.prog E 42 [zv ((hv.length : Int) - 1), zv (-1), zv ((hv.length : Int) - 1), .bp 2001 0, .bp 2002 0] (stBx hv) (nv (lastH hv)) (stBx hv) := by
  refine okM_of_vc (L := []) (ts := [8]) envOK mixed Try.func42 rfl (by kernel_rfl) rfl (by decide) (by kernel_rfl) rfl fun hl hlb => ?_
  simp only [Try.f42, stBx, bols, word, nums, nats, zv, nv, bv, sv, VL, VB, BEq.rfl, V1, V2, V3, V4, V5, V6, V7, V8, V9, V10, V11, V12, V13, VE, Nat.reduceBEq, Nat.reduceAdd, Nat.reduceSub, Nat.reduceMul, Nat.reduceLeDiff, Nat.reduceLT, Nat.reduceEqDiff, Int.reduceBEq, Int.reduceBNe, Int.reduceLT, Int.reduceLE, Int.reduceAdd, Int.reduceSub, Int.reduceMul, kAgg, scD, List.all_cons, List.all_nil]
  refine LoopVC.mk (Y := Nat) (fun k => k ≤ hv.length ∧ lastTo hv hv.length = lastTo hv k) (fun k => ⟨[(1, zv (-1)), (2, zv ((hv.length : Int) - 1)), (3, .bp 2001 0), (4, .bp 2002 0), (9, zv ((k : Int) - 1))], [(2001, .cells [nv hv.length]), (2002, .cells [.c (bols hv)])]⟩) (fun k => k) ⟨hv.length, Enter.mk [] [] [] ?_, by omega, rfl⟩ ?_
  · simp only [bols, word, nums, nats, zv, nv, bv, sv, VL, VB, BEq.rfl, V1, V2, V3, V4, V5, V6, V7, V8, V9, V10, V11, V12, V13, VE, Nat.reduceBEq, Nat.reduceAdd, Nat.reduceSub, Nat.reduceMul, Nat.reduceLeDiff, Nat.reduceLT, Nat.reduceEqDiff, Int.reduceBEq, Int.reduceBNe, Int.reduceLT, Int.reduceLE, Int.reduceAdd, Int.reduceSub, Int.reduceMul, kAgg, scD, List.all_cons, List.all_nil]
  rintro k ⟨hk, hpre⟩
  have e5 : decide ((0 : Int) ≤ (k : Int) - 1) = decide (0 < k) := by congr 1; exact propext ⟨fun h => by omega, fun h => by omega⟩
  simp only [e5, bols, word, nums, nats, zv, nv, bv, sv, VL, VB, BEq.rfl, V1, V2, V3, V4, V5, V6, V7, V8, V9, V10, V11, V12, V13, VE, Nat.reduceBEq, Nat.reduceAdd, Nat.reduceSub, Nat.reduceMul, Nat.reduceLeDiff, Nat.reduceLT, Nat.reduceEqDiff, Int.reduceBEq, Int.reduceBNe, Int.reduceLT, Int.reduceLE, Int.reduceAdd, Int.reduceSub, Int.reduceMul, kAgg, scD, List.all_cons, List.all_nil]
  refine guardB.mk (fun h => ?_) (fun h => ?_)
  · have hk' : 0 < k := by simpa using h
    obtain ⟨j, rfl⟩ : ∃ j, k = j + 1 := ⟨k - 1, by omega⟩
    have ej : ((j + 1 : Nat) : Int) - 1 = (j : Int) := by omega
    have e6 : decide (j < hv.length) = true := decide_eq_true (by omega)
    rw [lastTo] at hpre
    have hgk := getD_bol hv j (by omega)
    obtain ⟨b, hb⟩ : ∃ b, hv.getD j false = b := ⟨_, rfl⟩
    rw [hb] at hgk hpre
    have e7 : IntKind.i64.wrap ((j : Int) + -1) = (j : Int) - 1 := by rw [wrap_in (by omega) (by omega)]; omega
    simp only [h, ej, e6, hgk, lt_nat, bol_def, word, nums, nats, zv, nv, bv, sv, VL, VB, BEq.rfl, V1, V2, V3, V4, V5, V6, V7, V8, V9, V10, V11, V12, V13, VE, Nat.reduceBEq, Nat.reduceAdd, Nat.reduceSub, Nat.reduceMul, Nat.reduceLeDiff, Nat.reduceLT, Nat.reduceEqDiff, Int.reduceBEq, Int.reduceBNe, Int.reduceLT, Int.reduceLE, Int.reduceAdd, Int.reduceSub, Int.reduceMul, kAgg, scD, List.all_cons, List.all_nil]
    refine ⟨⟨Int.natCast_nonneg _, by omega⟩, ?_⟩
    cases b with
    | true =>
      rw [if_pos rfl] at hpre
      simp only [lastH, hpre, Option.getD_some, word, nums, nats, zv, nv, bv, sv, VL, VB, BEq.rfl, V1, V2, V3, V4, V5, V6, V7, V8, V9, V10, V11, V12, V13, VE, Nat.reduceBEq, Nat.reduceAdd, Nat.reduceSub, Nat.reduceMul, Nat.reduceLeDiff, Nat.reduceLT, Nat.reduceEqDiff, Int.reduceBEq, Int.reduceBNe, Int.reduceLT, Int.reduceLE, Int.reduceAdd, Int.reduceSub, Int.reduceMul, kAgg, scD, List.all_cons, List.all_nil]
      refine Enter.mk [] [] [] ?_
      simp only [word, nums, nats, zv, nv, bv, sv, VL, VB, BEq.rfl, V1, V2, V3, V4, V5, V6, V7, V8, V9, V10, V11, V12, V13, VE, Nat.reduceBEq, Nat.reduceAdd, Nat.reduceSub, Nat.reduceMul, Nat.reduceLeDiff, Nat.reduceLT, Nat.reduceEqDiff, Int.reduceBEq, Int.reduceBNe, Int.reduceLT, Int.reduceLE, Int.reduceAdd, Int.reduceSub, Int.reduceMul, kAgg, scD, List.all_cons, List.all_nil]
    | false =>
      rw [if_neg (by simp)] at hpre
      simp only [e7, word, nums, nats, zv, nv, bv, sv, VL, VB, BEq.rfl, V1, V2, V3, V4, V5, V6, V7, V8, V9, V10, V11, V12, V13, VE, Nat.reduceBEq, Nat.reduceAdd, Nat.reduceSub, Nat.reduceMul, Nat.reduceLeDiff, Nat.reduceLT, Nat.reduceEqDiff, Int.reduceBEq, Int.reduceBNe, Int.reduceLT, Int.reduceLE, Int.reduceAdd, Int.reduceSub, Int.reduceMul, kAgg, scD, List.all_cons, List.all_nil]
      refine ⟨j, Enter.mk [] [] [] ?_, ⟨by omega, hpre⟩, Nat.lt_succ_self j⟩
      simp only [bols, word, nums, nats, zv, nv, bv, sv, VL, VB, BEq.rfl, V1, V2, V3, V4, V5, V6, V7, V8, V9, V10, V11, V12, V13, VE, Nat.reduceBEq, Nat.reduceAdd, Nat.reduceSub, Nat.reduceMul, Nat.reduceLeDiff, Nat.reduceLT, Nat.reduceEqDiff, Int.reduceBEq, Int.reduceBNe, Int.reduceLT, Int.reduceLE, Int.reduceAdd, Int.reduceSub, Int.reduceMul, kAgg, scD, List.all_cons, List.all_nil]
  · have hk' : k = 0 := by
      have : ¬ 0 < k := by simpa using h
      omega
    rw [hk', lastTo] at hpre
    have e7 : (hv.length : Int) - 1 = ((hv.length - 1 : Nat) : Int) := by omega
    have hf : lastH hv = hv.length - 1 := by rw [lastH, hpre]; rfl
    simp only [h, hf, e7, word, nums, nats, zv, nv, bv, sv, VL, VB, BEq.rfl, V1, V2, V3, V4, V5, V6, V7, V8, V9, V10, V11, V12, V13, VE, Nat.reduceBEq, Nat.reduceAdd, Nat.reduceSub, Nat.reduceMul, Nat.reduceLeDiff, Nat.reduceLT, Nat.reduceEqDiff, Int.reduceBEq, Int.reduceBNe, Int.reduceLT, Int.reduceLE, Int.reduceAdd, Int.reduceSub, Int.reduceMul, kAgg, scD, List.all_cons, List.all_nil]
    refine Enter.mk [] [] [] ?_
    simp only [word, nums, nats, zv, nv, bv, sv, VL, VB, BEq.rfl, V1, V2, V3, V4, V5, V6, V7, V8, V9, V10, V11, V12, V13, VE, Nat.reduceBEq, Nat.reduceAdd, Nat.reduceSub, Nat.reduceMul, Nat.reduceLeDiff, Nat.reduceLT, Nat.reduceEqDiff, Int.reduceBEq, Int.reduceBNe, Int.reduceLT, Int.reduceLE, Int.reduceAdd, Int.reduceSub, Int.reduceMul, kAgg, scD, List.all_cons, List.all_nil]

abbrev SplitOk : Prop := ∀ (sc : List Snd) (p : Int) (w : List Snd), AllIn sc → AllIn w → Ok Try.prog E 13 [.ag (ruleD sc p), .c (word w)] (.tp [.c (syls (splitS sc p w)), zv (checkE sc p [w])])
theorem Heavy_of (h13 : SplitOk) (sc : List Snd) (p : Int) (w : List Snd) (hsc : AllIn sc) (hw : AllIn w) : Ok Try.prog E 16 [.ag (ruleD sc p), .c (word w)] (.tp [.c (bols (heavyS sc p w)), zv (checkE sc p [w])]) := by
  refine ok_of_vc (L := []) (ts := [4, 5]) envOK mixed Try.func16 rfl (by kernel_rfl) rfl (by kernel_rfl) rfl fun hl => ?_
  simp only [Try.f16, bols, word, nums, nats, zv, nv, bv, sv, VL, VB, BEq.rfl, V1, V2, V3, V4, V5, V6, V7, V8, V9, V10, V11, V12, V13, VE, Nat.reduceBEq, Nat.reduceAdd, Nat.reduceSub, Nat.reduceMul, Nat.reduceLeDiff, Nat.reduceLT, Nat.reduceEqDiff, Int.reduceBEq, Int.reduceBNe, Int.reduceLT, Int.reduceLE, Int.reduceAdd, Int.reduceSub, Int.reduceMul, kAgg, scD, List.all_cons, List.all_nil]
  refine CallX.mk (h13 sc p w hsc hw) rfl ?_
  have hlen := splitS_len sc p w
  rw [heavyS]
  obtain ⟨ss, hs⟩ : ∃ ss, splitS sc p w = ss := ⟨_, rfl⟩
  obtain ⟨ce, hce⟩ : ∃ ce, checkE sc p [w] = ce := ⟨_, rfl⟩
  rw [hs] at hlen ⊢
  rw [hce]
  simp only [syls, word, nums, nats, zv, nv, bv, sv, VL, VB, BEq.rfl, V1, V2, V3, V4, V5, V6, V7, V8, V9, V10, V11, V12, V13, VE, Nat.reduceBEq, Nat.reduceAdd, Nat.reduceSub, Nat.reduceMul, Nat.reduceLeDiff, Nat.reduceLT, Nat.reduceEqDiff, Int.reduceBEq, Int.reduceBNe, Int.reduceLT, Int.reduceLE, Int.reduceAdd, Int.reduceSub, Int.reduceMul, kAgg, scD, List.all_cons, List.all_nil]
  refine LoopVC.mk (Y := Nat) (fun k => k ≤ ss.length) (fun k => ⟨[(7, zv ce), (8, .osl 1000 0), (17, .c (syls ss)), (18, nv ss.length), (19, nv k)], [(1000, .arr 4 0 ((heavyOf (ss.take k)).map bol))]⟩) (fun k => ss.length - k) ⟨0, Enter.mk [(8, (1000, 4))] [] [] ?_, by omega⟩ ?_
  · simp only [syls, word, nums, nats, zv, nv, bv, sv, VL, VB, BEq.rfl, V1, V2, V3, V4, V5, V6, V7, V8, V9, V10, V11, V12, V13, VE, Nat.reduceBEq, Nat.reduceAdd, Nat.reduceSub, Nat.reduceMul, Nat.reduceLeDiff, Nat.reduceLT, Nat.reduceEqDiff, Int.reduceBEq, Int.reduceBNe, Int.reduceLT, Int.reduceLE, Int.reduceAdd, Int.reduceSub, Int.reduceMul, kAgg, scD, List.all_cons, List.all_nil]
    exact ⟨rfl, ⟨rfl, rfl⟩, rfl⟩
  intro k hk
  simp only [lt_nat, syls, word, nums, nats, zv, nv, bv, sv, VL, VB, BEq.rfl, V1, V2, V3, V4, V5, V6, V7, V8, V9, V10, V11, V12, V13, VE, Nat.reduceBEq, Nat.reduceAdd, Nat.reduceSub, Nat.reduceMul, Nat.reduceLeDiff, Nat.reduceLT, Nat.reduceEqDiff, Int.reduceBEq, Int.reduceBNe, Int.reduceLT, Int.reduceLE, Int.reduceAdd, Int.reduceSub, Int.reduceMul, kAgg, scD, List.all_cons, List.all_nil]
  refine guardB.mk (fun h => ?_) (fun h => ?_)
  · have hk' : k < ss.length := by simpa using h
    clear h
    have htk := heavy_take hk'
    have hgk := getD_syl ss k hk'
    obtain ⟨s, hs2⟩ : ∃ s, ss.getD k Syl.zero = s := ⟨_, rfl⟩
    rw [hs2] at htk hgk
    have hal : AllLen 1 [bol (decide (s.c < s.e))] := allLen_bol [_]
    have hl2 : (heavyOf (ss.take k)).length = k := by rw [heavyOf, List.length_map, List.length_take]; omega
    simp only [hgk, syl_def, lt_nat, hl2, wrap_nat (k := k) (by omega), word, nums, nats, zv, nv, bv, sv, VL, VB, BEq.rfl, V1, V2, V3, V4, V5, V6, V7, V8, V9, V10, V11, V12, V13, VE, Nat.reduceBEq, Nat.reduceAdd, Nat.reduceSub, Nat.reduceMul, Nat.reduceLeDiff, Nat.reduceLT, Nat.reduceEqDiff, Int.reduceBEq, Int.reduceBNe, Int.reduceLT, Int.reduceLE, Int.reduceAdd, Int.reduceSub, Int.reduceMul, kAgg, scD, List.all_cons, List.all_nil]
    refine ⟨⟨Int.natCast_nonneg k, hk'⟩, ⟨by omega, hal⟩, k + 1, Enter.id ?_, by omega, by show ss.length - (k + 1) < ss.length - k; omega⟩
    simp only [htk, bol_def, word, nums, nats, zv, nv, bv, sv, VL, VB, BEq.rfl, V1, V2, V3, V4, V5, V6, V7, V8, V9, V10, V11, V12, V13, VE, Nat.reduceBEq, Nat.reduceAdd, Nat.reduceSub, Nat.reduceMul, Nat.reduceLeDiff, Nat.reduceLT, Nat.reduceEqDiff, Int.reduceBEq, Int.reduceBNe, Int.reduceLT, Int.reduceLE, Int.reduceAdd, Int.reduceSub, Int.reduceMul, kAgg, scD, List.all_cons, List.all_nil]
  · have hk' : k = ss.length := by
      have : ¬ k < ss.length := by simpa using h
      omega
    simp only [hk', List.take_length, word, nums, nats, zv, nv, bv, sv, VL, VB, BEq.rfl, V1, V2, V3, V4, V5, V6, V7, V8, V9, V10, V11, V12, V13, VE, Nat.reduceBEq, Nat.reduceAdd, Nat.reduceSub, Nat.reduceMul, Nat.reduceLeDiff, Nat.reduceLT, Nat.reduceEqDiff, Int.reduceBEq, Int.reduceBNe, Int.reduceLT, Int.reduceLE, Int.reduceAdd, Int.reduceSub, Int.reduceMul, kAgg, scD, List.all_cons, List.all_nil]
theorem max_nat (k : Nat) : (bif decide (0 < (k : Int)) then (k : Int) else 0) = (k : Int) := by
  by_cases h : (0 : Int) < (k : Int)
  · rw [decide_eq_true h]; rfl
  · rw [decide_eq_false h]; show (0 : Int) = _; omega
theorem Stress_of (h13 : SplitOk) (sc : List Snd) (p : Int) (w : List Snd) (mode : Int) (hsc : AllIn sc) (hw : AllIn w) : Ok Try.prog E 19 [.ag (ruleD sc p), .c (word w), zv mode] (.tp [nv (stressV sc p w mode), zv (stressE sc p w mode)]) := by
  refine ok_of_vc (L := []) (ts := [6, 7]) envOK mixed Try.func19 rfl (by kernel_rfl) rfl (by kernel_rfl) rfl fun hl => ?_
  simp only [Try.f19, word, nums, nats, zv, nv, bv, sv, VL, VB, BEq.rfl, V1, V2, V3, V4, V5, V6, V7, V8, V9, V10, V11, V12, V13, VE, Nat.reduceBEq, Nat.reduceAdd, Nat.reduceSub, Nat.reduceMul, Nat.reduceLeDiff, Nat.reduceLT, Nat.reduceEqDiff, Int.reduceBEq, Int.reduceBNe, Int.reduceLT, Int.reduceLE, Int.reduceAdd, Int.reduceSub, Int.reduceMul, kAgg, scD, List.all_cons, List.all_nil]
  refine CallX.mk (Heavy_of h13 sc p w hsc hw) rfl ?_
  have hlen := splitS_len sc p w
  have hlen : (heavyS sc p w).length ≤ 32 := by rw [heavyS, heavyOf, List.length_map]; exact hlen
  rw [stressV]
  by_cases hc : checkE sc p [w] = 0
  · rw [stressE, if_pos hc]
    obtain ⟨hv, hs⟩ : ∃ hv, heavyS sc p w = hv := ⟨_, rfl⟩
    rw [hs] at hlen ⊢
    have e0 : ((hv.length : Int) == 0) = decide (hv.length = 0) := eq_nat _ 0
    simp only [hc, bols, e0, word, nums, nats, zv, nv, bv, sv, VL, VB, BEq.rfl, V1, V2, V3, V4, V5, V6, V7, V8, V9, V10, V11, V12, V13, VE, Nat.reduceBEq, Nat.reduceAdd, Nat.reduceSub, Nat.reduceMul, Nat.reduceLeDiff, Nat.reduceLT, Nat.reduceEqDiff, Int.reduceBEq, Int.reduceBNe, Int.reduceLT, Int.reduceLE, Int.reduceAdd, Int.reduceSub, Int.reduceMul, kAgg, scD, List.all_cons, List.all_nil]
    by_cases hm : mode < 1 ∨ 6 < mode
    · have hm2 : (decide (mode < 1) || decide (6 < mode)) = true := by simpa using hm
      rw [if_pos hm]
      simp only [show ((3 : Int) = 0) = False by simp, if_false]
      refine guardB.mk (fun h => ?_) (fun h => ?_)
      · simp only [h, word, nums, nats, zv, nv, bv, sv, VL, VB, BEq.rfl, V1, V2, V3, V4, V5, V6, V7, V8, V9, V10, V11, V12, V13, VE, Nat.reduceBEq, Nat.reduceAdd, Nat.reduceSub, Nat.reduceMul, Nat.reduceLeDiff, Nat.reduceLT, Nat.reduceEqDiff, Int.reduceBEq, Int.reduceBNe, Int.reduceLT, Int.reduceLE, Int.reduceAdd, Int.reduceSub, Int.reduceMul, kAgg, scD, List.all_cons, List.all_nil]
        rfl
      · rw [h, Bool.false_or] at hm2
        simp only [h, hm2, word, nums, nats, zv, nv, bv, sv, VL, VB, BEq.rfl, V1, V2, V3, V4, V5, V6, V7, V8, V9, V10, V11, V12, V13, VE, Nat.reduceBEq, Nat.reduceAdd, Nat.reduceSub, Nat.reduceMul, Nat.reduceLeDiff, Nat.reduceLT, Nat.reduceEqDiff, Int.reduceBEq, Int.reduceBNe, Int.reduceLT, Int.reduceLE, Int.reduceAdd, Int.reduceSub, Int.reduceMul, kAgg, scD, List.all_cons, List.all_nil]
        rfl
    rw [if_neg hm]
    have h6 : mode = 1 ∨ mode = 2 ∨ mode = 3 ∨ mode = 4 ∨ mode = 5 ∨ mode = 6 := by omega
    by_cases h0 : hv.length = 0
    · have e0 : ((hv.length : Int) == 0) = true := by rw [e0, decide_eq_true h0]
      rw [if_pos h0]
      rcases h6 with rfl | rfl | rfl | rfl | rfl | rfl <;> simp only [e0, word, nums, nats, zv, nv, bv, sv, VL, VB, BEq.rfl, V1, V2, V3, V4, V5, V6, V7, V8, V9, V10, V11, V12, V13, VE, Nat.reduceBEq, Nat.reduceAdd, Nat.reduceSub, Nat.reduceMul, Nat.reduceLeDiff, Nat.reduceLT, Nat.reduceEqDiff, Int.reduceBEq, Int.reduceBNe, Int.reduceLT, Int.reduceLE, Int.reduceAdd, Int.reduceSub, Int.reduceMul, kAgg, scD, List.all_cons, List.all_nil] <;> rfl
    have e0 : ((hv.length : Int) == 0) = false := by rw [e0, decide_eq_false h0]
    rw [if_neg h0]
    simp only [if_true]
    have e1 : IntKind.i64.wrap ((hv.length : Int) - 1) = ((hv.length - 1 : Nat) : Int) := by rw [wrap_in (by omega) (by omega)]; omega
    have e2 : (hv.length : Int) - 1 = ((hv.length - 1 : Nat) : Int) := by omega
    rcases h6 with rfl | rfl | rfl | rfl | rfl | rfl
    · simp only [e0, st1, word, nums, nats, zv, nv, bv, sv, VL, VB, BEq.rfl, V1, V2, V3, V4, V5, V6, V7, V8, V9, V10, V11, V12, V13, VE, Nat.reduceBEq, Nat.reduceAdd, Nat.reduceSub, Nat.reduceMul, Nat.reduceLeDiff, Nat.reduceLT, Nat.reduceEqDiff, Int.reduceBEq, Int.reduceBNe, Int.reduceLT, Int.reduceLE, Int.reduceAdd, Int.reduceSub, Int.reduceMul, kAgg, scD, List.all_cons, List.all_nil]
      rfl
    · simp only [e0, e1, st2, max_nat, word, nums, nats, zv, nv, bv, sv, VL, VB, BEq.rfl, V1, V2, V3, V4, V5, V6, V7, V8, V9, V10, V11, V12, V13, VE, Nat.reduceBEq, Nat.reduceAdd, Nat.reduceSub, Nat.reduceMul, Nat.reduceLeDiff, Nat.reduceLT, Nat.reduceEqDiff, Int.reduceBEq, Int.reduceBNe, Int.reduceLT, Int.reduceLE, Int.reduceAdd, Int.reduceSub, Int.reduceMul, kAgg, scD, List.all_cons, List.all_nil]
    · simp only [e0, st3, max_two hlen, word, nums, nats, zv, nv, bv, sv, VL, VB, BEq.rfl, V1, V2, V3, V4, V5, V6, V7, V8, V9, V10, V11, V12, V13, VE, Nat.reduceBEq, Nat.reduceAdd, Nat.reduceSub, Nat.reduceMul, Nat.reduceLeDiff, Nat.reduceLT, Nat.reduceEqDiff, Int.reduceBEq, Int.reduceBNe, Int.reduceLT, Int.reduceLE, Int.reduceAdd, Int.reduceSub, Int.reduceMul, kAgg, scD, List.all_cons, List.all_nil]
    · rw [st4]
      have e3 : decide ((2 : Int) < (hv.length : Int)) = decide (2 < hv.length) := lt_nat 2 _
      simp only [e0, e3, word, nums, nats, zv, nv, bv, sv, VL, VB, BEq.rfl, V1, V2, V3, V4, V5, V6, V7, V8, V9, V10, V11, V12, V13, VE, Nat.reduceBEq, Nat.reduceAdd, Nat.reduceSub, Nat.reduceMul, Nat.reduceLeDiff, Nat.reduceLT, Nat.reduceEqDiff, Int.reduceBEq, Int.reduceBNe, Int.reduceLT, Int.reduceLE, Int.reduceAdd, Int.reduceSub, Int.reduceMul, kAgg, scD, List.all_cons, List.all_nil]
      refine guardB.mk (fun h => ?_) (fun h => ?_)
      · have h2 : 2 < hv.length := by simpa using h
        have e5 : IntKind.i64.wrap ((hv.length : Int) - 2) = ((hv.length - 2 : Nat) : Int) := by rw [wrap_in (by omega) (by omega)]; omega
        have e6 : IntKind.i64.wrap (((hv.length - 2 : Nat) : Int) - 1) = ((hv.length - 3 : Nat) : Int) := by rw [wrap_in (by omega) (by omega)]; omega
        have hgk := getD_bol hv (hv.length - 2) (by omega)
        obtain ⟨b, hb⟩ : ∃ b, hv.getD (hv.length - 2) false = b := ⟨_, rfl⟩
        rw [hb] at hgk ⊢
        simp only [h, e5, hgk, bol_def, word, nums, nats, zv, nv, bv, sv, VL, VB, BEq.rfl, V1, V2, V3, V4, V5, V6, V7, V8, V9, V10, V11, V12, V13, VE, Nat.reduceBEq, Nat.reduceAdd, Nat.reduceSub, Nat.reduceMul, Nat.reduceLeDiff, Nat.reduceLT, Nat.reduceEqDiff, Int.reduceBEq, Int.reduceBNe, Int.reduceLT, Int.reduceLE, Int.reduceAdd, Int.reduceSub, Int.reduceMul, kAgg, scD, List.all_cons, List.all_nil]
        refine ⟨⟨Int.natCast_nonneg _, by omega⟩, ?_⟩
        cases b with
        | true =>
          simp only [max_nat, or_true, if_true, word, nums, nats, zv, nv, bv, sv, VL, VB, BEq.rfl, V1, V2, V3, V4, V5, V6, V7, V8, V9, V10, V11, V12, V13, VE, Nat.reduceBEq, Nat.reduceAdd, Nat.reduceSub, Nat.reduceMul, Nat.reduceLeDiff, Nat.reduceLT, Nat.reduceEqDiff, Int.reduceBEq, Int.reduceBNe, Int.reduceLT, Int.reduceLE, Int.reduceAdd, Int.reduceSub, Int.reduceMul, kAgg, scD, List.all_cons, List.all_nil]
        | false =>
          have h4 : ¬ hv.length ≤ 2 := by omega
          simp only [e6, max_nat, h4, Bool.false_eq_true, or_false, if_false, word, nums, nats, zv, nv, bv, sv, VL, VB, BEq.rfl, V1, V2, V3, V4, V5, V6, V7, V8, V9, V10, V11, V12, V13, VE, Nat.reduceBEq, Nat.reduceAdd, Nat.reduceSub, Nat.reduceMul, Nat.reduceLeDiff, Nat.reduceLT, Nat.reduceEqDiff, Int.reduceBEq, Int.reduceBNe, Int.reduceLT, Int.reduceLE, Int.reduceAdd, Int.reduceSub, Int.reduceMul, kAgg, scD, List.all_cons, List.all_nil]
      · have h2 : hv.length ≤ 2 := by
          have : ¬ 2 < hv.length := by simpa using h
          omega
        rw [if_pos (.inl h2)]
        simp only [h, max_two hlen, word, nums, nats, zv, nv, bv, sv, VL, VB, BEq.rfl, V1, V2, V3, V4, V5, V6, V7, V8, V9, V10, V11, V12, V13, VE, Nat.reduceBEq, Nat.reduceAdd, Nat.reduceSub, Nat.reduceMul, Nat.reduceLeDiff, Nat.reduceLT, Nat.reduceEqDiff, Int.reduceBEq, Int.reduceBNe, Int.reduceLT, Int.reduceLE, Int.reduceAdd, Int.reduceSub, Int.reduceMul, kAgg, scD, List.all_cons, List.all_nil]
    · rw [st5]
      simp only [e0, word, nums, nats, zv, nv, bv, sv, VL, VB, BEq.rfl, V1, V2, V3, V4, V5, V6, V7, V8, V9, V10, V11, V12, V13, VE, Nat.reduceBEq, Nat.reduceAdd, Nat.reduceSub, Nat.reduceMul, Nat.reduceLeDiff, Nat.reduceLT, Nat.reduceEqDiff, Int.reduceBEq, Int.reduceBNe, Int.reduceLT, Int.reduceLE, Int.reduceAdd, Int.reduceSub, Int.reduceMul, kAgg, scD, List.all_cons, List.all_nil]
      refine CallMVC.mk [] [(2001, 10), (2002, 8)] (up_ok hv hlen) ?_ ?_
      · simp only [stBx, bols, word, nums, nats, zv, nv, bv, sv, VL, VB, BEq.rfl, V1, V2, V3, V4, V5, V6, V7, V8, V9, V10, V11, V12, V13, VE, Nat.reduceBEq, Nat.reduceAdd, Nat.reduceSub, Nat.reduceMul, Nat.reduceLeDiff, Nat.reduceLT, Nat.reduceEqDiff, Int.reduceBEq, Int.reduceBNe, Int.reduceLT, Int.reduceLE, Int.reduceAdd, Int.reduceSub, Int.reduceMul, kAgg, scD, List.all_cons, List.all_nil]
      simp only [stBx, max_nat, word, nums, nats, zv, nv, bv, sv, VL, VB, BEq.rfl, V1, V2, V3, V4, V5, V6, V7, V8, V9, V10, V11, V12, V13, VE, Nat.reduceBEq, Nat.reduceAdd, Nat.reduceSub, Nat.reduceMul, Nat.reduceLeDiff, Nat.reduceLT, Nat.reduceEqDiff, Int.reduceBEq, Int.reduceBNe, Int.reduceLT, Int.reduceLE, Int.reduceAdd, Int.reduceSub, Int.reduceMul, kAgg, scD, List.all_cons, List.all_nil]
    · rw [st6]
      have hdn := down_ok hv hlen (by omega)
      rw [e2] at hdn
      simp only [e0, e1, word, nums, nats, zv, nv, bv, sv, VL, VB, BEq.rfl, V1, V2, V3, V4, V5, V6, V7, V8, V9, V10, V11, V12, V13, VE, Nat.reduceBEq, Nat.reduceAdd, Nat.reduceSub, Nat.reduceMul, Nat.reduceLeDiff, Nat.reduceLT, Nat.reduceEqDiff, Int.reduceBEq, Int.reduceBNe, Int.reduceLT, Int.reduceLE, Int.reduceAdd, Int.reduceSub, Int.reduceMul, kAgg, scD, List.all_cons, List.all_nil]
      refine CallMVC.mk [] [(2001, 10), (2002, 8)] hdn ?_ ?_
      · simp only [stBx, bols, word, nums, nats, zv, nv, bv, sv, VL, VB, BEq.rfl, V1, V2, V3, V4, V5, V6, V7, V8, V9, V10, V11, V12, V13, VE, Nat.reduceBEq, Nat.reduceAdd, Nat.reduceSub, Nat.reduceMul, Nat.reduceLeDiff, Nat.reduceLT, Nat.reduceEqDiff, Int.reduceBEq, Int.reduceBNe, Int.reduceLT, Int.reduceLE, Int.reduceAdd, Int.reduceSub, Int.reduceMul, kAgg, scD, List.all_cons, List.all_nil]
      simp only [stBx, max_nat, word, nums, nats, zv, nv, bv, sv, VL, VB, BEq.rfl, V1, V2, V3, V4, V5, V6, V7, V8, V9, V10, V11, V12, V13, VE, Nat.reduceBEq, Nat.reduceAdd, Nat.reduceSub, Nat.reduceMul, Nat.reduceLeDiff, Nat.reduceLT, Nat.reduceEqDiff, Int.reduceBEq, Int.reduceBNe, Int.reduceLT, Int.reduceLE, Int.reduceAdd, Int.reduceSub, Int.reduceMul, kAgg, scD, List.all_cons, List.all_nil]
  · have h1 : (checkE sc p [w] != 0) = true := by simpa using hc
    have h2 : ¬ stressE sc p w mode = 0 := by rw [stressE, if_neg hc]; exact hc
    rw [if_neg h2, stressE, if_neg hc]
    simp only [h1, word, nums, nats, zv, nv, bv, sv, VL, VB, BEq.rfl, V1, V2, V3, V4, V5, V6, V7, V8, V9, V10, V11, V12, V13, VE, Nat.reduceBEq, Nat.reduceAdd, Nat.reduceSub, Nat.reduceMul, Nat.reduceLeDiff, Nat.reduceLT, Nat.reduceEqDiff, Int.reduceBEq, Int.reduceBNe, Int.reduceLT, Int.reduceLE, Int.reduceAdd, Int.reduceSub, Int.reduceMul, kAgg, scD, List.all_cons, List.all_nil]
    rfl
end Go.Cp
end

section
set_option linter.unusedVariables false
set_option linter.unusedSimpArgs false
set_option maxHeartbeats 4000000
set_option maxRecDepth 10000
namespace Go.Cp
open Go Go.Proofs Go.Vx

def sndP : Snd := ⟨2, 13⟩
def sndA : Snd := ⟨5, 10⟩
def sndN : Snd := ⟨9, 6⟩
def scG : List Snd := [⟨1, 0⟩, ⟨8, 0⟩, ⟨4, 0⟩]
theorem p_ok : Ok Try.prog E 38 [] (.ag sndP.enc) := by
  refine ok_of_vcC (L := []) (rs := [.cell 0 50]) envOK mixed Try.func38 rfl (by kernel_rfl) rfl (by kernel_rfl) rfl fun hl => ?_
  simp only [Try.f38, word, nums, nats, zv, nv, bv, sv, VL, VB, BEq.rfl, V1, V2, V3, V4, V5, V6, V7, V8, V9, V10, V11, V12, V13, VE, Nat.reduceBEq, Nat.reduceAdd, Nat.reduceSub, Nat.reduceMul, Nat.reduceLeDiff, Nat.reduceLT, Nat.reduceEqDiff, Int.reduceBEq, Int.reduceBNe, Int.reduceLT, Int.reduceLE, Int.reduceAdd, Int.reduceSub, Int.reduceMul, kAgg, scD, List.all_cons, List.all_nil]
  rfl
theorem a_ok : Ok Try.prog E 39 [] (.ag sndA.enc) := by
  refine ok_of_vcC (L := []) (rs := [.cell 0 50]) envOK mixed Try.func39 rfl (by kernel_rfl) rfl (by kernel_rfl) rfl fun hl => ?_
  simp only [Try.f39, word, nums, nats, zv, nv, bv, sv, VL, VB, BEq.rfl, V1, V2, V3, V4, V5, V6, V7, V8, V9, V10, V11, V12, V13, VE, Nat.reduceBEq, Nat.reduceAdd, Nat.reduceSub, Nat.reduceMul, Nat.reduceLeDiff, Nat.reduceLT, Nat.reduceEqDiff, Int.reduceBEq, Int.reduceBNe, Int.reduceLT, Int.reduceLE, Int.reduceAdd, Int.reduceSub, Int.reduceMul, kAgg, scD, List.all_cons, List.all_nil]
  rfl
theorem n_ok : Ok Try.prog E 40 [] (.ag sndN.enc) := by
  refine ok_of_vcC (L := []) (rs := [.cell 0 50]) envOK mixed Try.func40 rfl (by kernel_rfl) rfl (by kernel_rfl) rfl fun hl => ?_
  simp only [Try.f40, word, nums, nats, zv, nv, bv, sv, VL, VB, BEq.rfl, V1, V2, V3, V4, V5, V6, V7, V8, V9, V10, V11, V12, V13, VE, Nat.reduceBEq, Nat.reduceAdd, Nat.reduceSub, Nat.reduceMul, Nat.reduceLeDiff, Nat.reduceLT, Nat.reduceEqDiff, Int.reduceBEq, Int.reduceBNe, Int.reduceLT, Int.reduceLE, Int.reduceAdd, Int.reduceSub, Int.reduceMul, kAgg, scD, List.all_cons, List.all_nil]
  rfl
theorem rule_ok : Ok Try.prog E 41 [] (.ag (ruleD scG 3)) := by
  refine ok_of_vcC (L := []) (rs := [.cell 0 24]) envOK mixed Try.func41 rfl (by kernel_rfl) rfl (by kernel_rfl) rfl fun hl => ?_
  simp only [Try.f41, word, nums, nats, zv, nv, bv, sv, VL, VB, BEq.rfl, V1, V2, V3, V4, V5, V6, V7, V8, V9, V10, V11, V12, V13, VE, Nat.reduceBEq, Nat.reduceAdd, Nat.reduceSub, Nat.reduceMul, Nat.reduceLeDiff, Nat.reduceLT, Nat.reduceEqDiff, Int.reduceBEq, Int.reduceBNe, Int.reduceLT, Int.reduceLE, Int.reduceAdd, Int.reduceSub, Int.reduceMul, kAgg, scD, List.all_cons, List.all_nil]
  rfl
end Go.Cp
end

section
set_option linter.unusedVariables false
set_option linter.unusedSimpArgs false
set_option maxHeartbeats 4000000
set_option maxRecDepth 10000
namespace Go.Cp
open Go Go.Proofs Go.Vx

def str (s : ByteArray) : List D := [.sc (.string s)]
abbrev strs (xs : List ByteArray) : D := .sl (xs.map str)
theorem str_def (s : ByteArray) : str s = [.sc (.string s)] := rfl
theorem allLen_str (xs : List ByteArray) : AllLen 1 (xs.map str) := by
  intro y hy
  obtain ⟨n, _, rfl⟩ := List.mem_map.1 hy
  rfl
def joinB (sep : ByteArray) (xs : List ByteArray) : ByteArray := ⟨(Lib.join (xs.map (·.data.toList)) sep.data.toList).toArray⟩
abbrev JoinOk : Prop := ∀ (xs : List ByteArray) (sep : ByteArray), xs.length ≤ 140737488355328 → (Lib.join (xs.map (·.data.toList)) sep.data.toList).length ≤ 140737488355328 → Ok Try.prog E 49 [.c (strs xs), sv sep] (sv (joinB sep xs))
def pkL (p : Int) (lv : List Nat) (i : Nat) : Bool := decide (p ≤ (lv.getD i 0 : Int))
def segS (p : Int) (lv : List Nat) (s : Syl) : ByteArray := segF (pkL p lv) ByteArray.empty s.b (s.e - s.b)
def partsTo (p : Int) (lv : List Nat) (k : Nat) : List ByteArray := ((splitL p lv).take k).map (segS p lv)
theorem partsTo_succ {p : Int} {lv : List Nat} {k : Nat} (h : k < (splitL p lv).length) : partsTo p lv (k + 1) = partsTo p lv k ++ [segS p lv ((splitL p lv).getD k Syl.zero)] := by
  rw [partsTo, partsTo, List.take_add_one, List.getElem?_eq_getElem h, getD_of Syl.zero _ k h, List.map_append]; rfl
theorem partsTo_len {p : Int} {lv : List Nat} {k : Nat} (h : k ≤ (splitL p lv).length) : (partsTo p lv k).length = k := by
  rw [partsTo, List.length_map, List.length_take]; omega
def shapeSt (sc : List Snd) (p : Int) (lv : List Nat) : Nat → S
  | 0 => ⟨[(2, .bp 2 0), (7, .bp 7 0), (8, .bp 8 0)], [(2, .cells [.c (word sc), zv p]), (7, .cells [.c (nats lv)]), (8, .cells [.c (.sc (.slice none 0 0))])]⟩
  | k + 1 => ⟨[(2, .bp 2 0), (7, .bp 7 0), (8, .bp 8 0)], [(2, .cells [.c (word sc), zv p]), (7, .cells [.c (nats lv)]), (8, .cells [.osl 1000 0]), (1000, .arr 9 0 ((partsTo p lv (k + 1)).map str))]⟩
theorem Shape_walk (hJ : JoinOk) (sc : List Snd) (p : Int) (w : List Snd) (hsc : AllIn sc) (hw : AllIn w) (hjl : checkE sc p [w] = 0 → (Lib.join ((partsTo p (lev sc w) (splitL p (lev sc w)).length).map (·.data.toList)) chDot.data.toList).length ≤ 140737488355328) :
    Ok Try.prog E 25 [.ag (ruleD sc p), .c (word w)] (.tp [sv (if checkE sc p [w] = 0 then joinB chDot (partsTo p (lev sc w) (splitL p (lev sc w)).length) else ByteArray.empty), zv (checkE sc p [w])]) := by
  refine ok_of_vc (L := []) (ts := [4, 5]) envOK mixed Try.func25 rfl (by kernel_rfl) rfl (by kernel_rfl) rfl fun hl => ?_
  simp only [Try.f25, word, nums, nats, zv, nv, bv, sv, VL, VB, BEq.rfl, V1, V2, V3, V4, V5, V6, V7, V8, V9, V10, V11, V12, V13, VE, Nat.reduceBEq, Nat.reduceAdd, Nat.reduceSub, Nat.reduceMul, Nat.reduceLeDiff, Nat.reduceLT, Nat.reduceEqDiff, Int.reduceBEq, Int.reduceBNe, Int.reduceLT, Int.reduceLE, Int.reduceAdd, Int.reduceSub, Int.reduceMul, kAgg, scD, List.all_cons, List.all_nil]
  have hck := check_ok sc p [w] hsc (allIn_one hw)
  simp only [wordsD, List.map_cons, List.map_nil] at hck
  refine CallX.mk hck rfl ?_
  by_cases hc : checkE sc p [w] = 0
  · rw [if_pos hc]
    have hjl := hjl hc
    obtain ⟨hr, hwl⟩ := checkE_zero hc
    have hn : sc.length ≤ 12 := by
      simp only [okR, Bool.and_eq_true, decide_eq_true_eq] at hr
      exact hr.1
    have hlo := Ok.val (levels_ok sc p w hsc hw hn hwl)
    have hlv := lev_len sc w
    have hsi := fun s hs => splitL_in (p := p) (lv := lev sc w) (s := s) hs
    have hsl := splitL_len p (lev sc w)
    revert hlo hlv hsi hjl hsl
    generalize lev sc w = lv
    intro hjl hlo hlv hsi hsl
    have hjo := hJ _ _ (by rw [partsTo_len (Nat.le_refl _)]; omega) hjl
    simp only [hc, word, nums, nats, zv, nv, bv, sv, VL, VB, BEq.rfl, V1, V2, V3, V4, V5, V6, V7, V8, V9, V10, V11, V12, V13, VE, Nat.reduceBEq, Nat.reduceAdd, Nat.reduceSub, Nat.reduceMul, Nat.reduceLeDiff, Nat.reduceLT, Nat.reduceEqDiff, Int.reduceBEq, Int.reduceBNe, Int.reduceLT, Int.reduceLE, Int.reduceAdd, Int.reduceSub, Int.reduceMul, kAgg, scD, List.all_cons, List.all_nil]
    refine CallX.mk hlo rfl ?_
    simp only [word, nums, nats, zv, nv, bv, sv, VL, VB, BEq.rfl, V1, V2, V3, V4, V5, V6, V7, V8, V9, V10, V11, V12, V13, VE, Nat.reduceBEq, Nat.reduceAdd, Nat.reduceSub, Nat.reduceMul, Nat.reduceLeDiff, Nat.reduceLT, Nat.reduceEqDiff, Int.reduceBEq, Int.reduceBNe, Int.reduceLT, Int.reduceLE, Int.reduceAdd, Int.reduceSub, Int.reduceMul, kAgg, scD, List.all_cons, List.all_nil]
    refine CallX.mut (CallMVC.mk [] [(2001, 25), (2002, 3002)] (syllables_ok sc p lv) ?_ ?_)
    · simp only [word, nums, nats, zv, nv, bv, sv, VL, VB, BEq.rfl, V1, V2, V3, V4, V5, V6, V7, V8, V9, V10, V11, V12, V13, VE, Nat.reduceBEq, Nat.reduceAdd, Nat.reduceSub, Nat.reduceMul, Nat.reduceLeDiff, Nat.reduceLT, Nat.reduceEqDiff, Int.reduceBEq, Int.reduceBNe, Int.reduceLT, Int.reduceLE, Int.reduceAdd, Int.reduceSub, Int.reduceMul, kAgg, scD, List.all_cons, List.all_nil]
    simp only [word, nums, nats, zv, nv, bv, sv, VL, VB, BEq.rfl, V1, V2, V3, V4, V5, V6, V7, V8, V9, V10, V11, V12, V13, VE, Nat.reduceBEq, Nat.reduceAdd, Nat.reduceSub, Nat.reduceMul, Nat.reduceLeDiff, Nat.reduceLT, Nat.reduceEqDiff, Int.reduceBEq, Int.reduceBNe, Int.reduceLT, Int.reduceLE, Int.reduceAdd, Int.reduceSub, Int.reduceMul, kAgg, scD, List.all_cons, List.all_nil]
    refine RangeVC.mk (Y := Nat) [(2001, 25), (2002, 3002)] [] [] (syl_seq sc p lv (by omega)) (fun k y => y = k ∧ k ≤ (splitL p lv).length) (shapeSt sc p lv) rfl ?_ ?_ ⟨0, ?_, rfl, by omega⟩ ?_ ?_
    · simp only [word, nums, nats, zv, nv, bv, sv, VL, VB, BEq.rfl, V1, V2, V3, V4, V5, V6, V7, V8, V9, V10, V11, V12, V13, VE, Nat.reduceBEq, Nat.reduceAdd, Nat.reduceSub, Nat.reduceMul, Nat.reduceLeDiff, Nat.reduceLT, Nat.reduceEqDiff, Int.reduceBEq, Int.reduceBNe, Int.reduceLT, Int.reduceLE, Int.reduceAdd, Int.reduceSub, Int.reduceMul, kAgg, scD, List.all_cons, List.all_nil]
    · intro e he
      simp only [sylES, List.mem_map] at he
      obtain ⟨i, _, rfl⟩ := he
      rfl
    · simp only [shapeSt, word, nums, nats, zv, nv, bv, sv, VL, VB, BEq.rfl, V1, V2, V3, V4, V5, V6, V7, V8, V9, V10, V11, V12, V13, VE, Nat.reduceBEq, Nat.reduceAdd, Nat.reduceSub, Nat.reduceMul, Nat.reduceLeDiff, Nat.reduceLT, Nat.reduceEqDiff, Int.reduceBEq, Int.reduceBNe, Int.reduceLT, Int.reduceLE, Int.reduceAdd, Int.reduceSub, Int.reduceMul, kAgg, scD, List.all_cons, List.all_nil]
    · rintro k e y he ⟨rfl, hk⟩
      have hlen : (sylES p lv).length = (splitL p lv).length := by rw [sylES, List.length_map]
      have hk' : y < (splitL p lv).length := by
        have := (List.getElem?_eq_some_iff.1 he).1
        rwa [hlen] at this
      have hget : (sylES p lv)[y]? = some [.ag ((splitL p lv).getD y Syl.zero).enc] := by
        rw [sylES, getD_of Syl.zero _ y hk', List.getElem?_map, List.getElem?_eq_getElem hk']; rfl
      rw [hget] at he
      injection he with he
      subst he
      have hps := partsTo_succ hk'
      have hpl := partsTo_len (p := p) (lv := lv) (k := y) hk
      have hsi := hsi _ (getD_mem Syl.zero hk')
      obtain ⟨s, hs2⟩ : ∃ s, (splitL p lv).getD y Syl.zero = s := ⟨_, rfl⟩
      rw [hs2] at hsi hps
      obtain ⟨n, hnn⟩ : ∃ n, s.e - s.b = n := ⟨_, rfl⟩
      obtain ⟨sub, hsub⟩ : ∃ sub, (lv.take s.e).drop s.b = sub := ⟨_, rfl⟩
      have hsm : List.drop s.b (List.take s.e (List.map nat lv)) = sub.map nat := by rw [← hsub, List.map_drop, List.map_take]
      have hsn : sub.length = n := by rw [← hsub, List.length_drop, List.length_take]; omega
      have hsg : ∀ m, m < n → sub.getD m 0 = lv.getD (s.b + m) 0 := by
        intro m hm
        rw [← hsub]
        simp only [List.getD, List.getElem?_drop, List.getElem?_take, if_pos (show s.b + m < s.e by omega)]
      rw [segS, hnn] at hps
      cases y with
      | zero =>
        have hal : ∀ x : ByteArray, AllLen 1 [str x] := fun x => allLen_str [x]
        simp only [shapeSt, hs2, syl_def, hsm, List.length_map, hsn, word, nums, nats, zv, nv, bv, sv, VL, VB, BEq.rfl, V1, V2, V3, V4, V5, V6, V7, V8, V9, V10, V11, V12, V13, VE, Nat.reduceBEq, Nat.reduceAdd, Nat.reduceSub, Nat.reduceMul, Nat.reduceLeDiff, Nat.reduceLT, Nat.reduceEqDiff, Int.reduceBEq, Int.reduceBNe, Int.reduceLT, Int.reduceLE, Int.reduceAdd, Int.reduceSub, Int.reduceMul, kAgg, scD, List.all_cons, List.all_nil]
        refine ⟨⟨⟨by omega, by omega, by omega⟩, allLen_nat lv⟩, ?_⟩
        refine LoopVC.mk (Y := Nat) (fun m => m ≤ n) (fun m => ⟨[(2, .bp 2 0), (7, .bp 7 0), (8, .bp 8 0), (10, sv (segF (pkL p lv) ByteArray.empty s.b m)), (32, .c (nats sub)), (33, nv n), (34, nv m)], [(2, .cells [.c (word sc), zv p]), (7, .cells [.c (nats lv)]), (8, .cells [.c (.sc (.slice none 0 0))])]⟩) (fun m => n - m) ⟨0, Enter.mk [] [] [] ?_, by omega⟩ ?_
        · simp only [segF, word, nums, nats, zv, nv, bv, sv, VL, VB, BEq.rfl, V1, V2, V3, V4, V5, V6, V7, V8, V9, V10, V11, V12, V13, VE, Nat.reduceBEq, Nat.reduceAdd, Nat.reduceSub, Nat.reduceMul, Nat.reduceLeDiff, Nat.reduceLT, Nat.reduceEqDiff, Int.reduceBEq, Int.reduceBNe, Int.reduceLT, Int.reduceLE, Int.reduceAdd, Int.reduceSub, Int.reduceMul, kAgg, scD, List.all_cons, List.all_nil]
          exact ⟨rfl, rfl⟩
        intro m hm
        obtain ⟨x, hx⟩ : ∃ x, segF (pkL p lv) ByteArray.empty s.b m = x := ⟨_, rfl⟩
        have hxs := segF_size (pkL p lv) ByteArray.empty s.b m
        have hx1 : segF (pkL p lv) ByteArray.empty s.b (m + 1) = x ++ (if pkL p lv (s.b + m) = true then chV else chC) := by rw [segF, hx]
        rw [hx] at hxs
        have hes : (ByteArray.empty).size = 0 := rfl
        simp only [hx, lt_nat, word, nums, nats, zv, nv, bv, sv, VL, VB, BEq.rfl, V1, V2, V3, V4, V5, V6, V7, V8, V9, V10, V11, V12, V13, VE, Nat.reduceBEq, Nat.reduceAdd, Nat.reduceSub, Nat.reduceMul, Nat.reduceLeDiff, Nat.reduceLT, Nat.reduceEqDiff, Int.reduceBEq, Int.reduceBNe, Int.reduceLT, Int.reduceLE, Int.reduceAdd, Int.reduceSub, Int.reduceMul, kAgg, scD, List.all_cons, List.all_nil]
        refine guardB.mk (fun h => ?_) (fun h => ?_)
        · have hm' : m < n := by simpa using h
          clear h
          have hgs := getD_nat sub m (by omega)
          rw [hsg m hm'] at hgs
          rw [pkL] at hx1
          obtain ⟨c, hc2⟩ : ∃ c, lv.getD (s.b + m) 0 = c := ⟨_, rfl⟩
          rw [hc2] at hgs hx1
          simp only [hgs, nat_def, word, nums, nats, zv, nv, bv, sv, VL, VB, BEq.rfl, V1, V2, V3, V4, V5, V6, V7, V8, V9, V10, V11, V12, V13, VE, Nat.reduceBEq, Nat.reduceAdd, Nat.reduceSub, Nat.reduceMul, Nat.reduceLeDiff, Nat.reduceLT, Nat.reduceEqDiff, Int.reduceBEq, Int.reduceBNe, Int.reduceLT, Int.reduceLE, Int.reduceAdd, Int.reduceSub, Int.reduceMul, kAgg, scD, List.all_cons, List.all_nil]
          refine ⟨⟨Int.natCast_nonneg _, by omega⟩, ?_⟩
          refine guardB.mk (fun h => ?_) (fun h => ?_)
          · rw [h, if_pos rfl] at hx1
            simp only [h, wrap_nat (k := m) (by omega), word, nums, nats, zv, nv, bv, sv, VL, VB, BEq.rfl, V1, V2, V3, V4, V5, V6, V7, V8, V9, V10, V11, V12, V13, VE, Nat.reduceBEq, Nat.reduceAdd, Nat.reduceSub, Nat.reduceMul, Nat.reduceLeDiff, Nat.reduceLT, Nat.reduceEqDiff, Int.reduceBEq, Int.reduceBNe, Int.reduceLT, Int.reduceLE, Int.reduceAdd, Int.reduceSub, Int.reduceMul, kAgg, scD, List.all_cons, List.all_nil]
            refine ⟨by show x.size + 1 ≤ _; omega, m + 1, Enter.mk [] [] [] ?_, by omega, by show n - (m + 1) < n - m; omega⟩
            simp only [hx1, word, nums, nats, zv, nv, bv, sv, VL, VB, BEq.rfl, V1, V2, V3, V4, V5, V6, V7, V8, V9, V10, V11, V12, V13, VE, Nat.reduceBEq, Nat.reduceAdd, Nat.reduceSub, Nat.reduceMul, Nat.reduceLeDiff, Nat.reduceLT, Nat.reduceEqDiff, Int.reduceBEq, Int.reduceBNe, Int.reduceLT, Int.reduceLE, Int.reduceAdd, Int.reduceSub, Int.reduceMul, kAgg, scD, List.all_cons, List.all_nil]
            rfl
          · rw [h, if_neg (by simp)] at hx1
            simp only [h, wrap_nat (k := m) (by omega), word, nums, nats, zv, nv, bv, sv, VL, VB, BEq.rfl, V1, V2, V3, V4, V5, V6, V7, V8, V9, V10, V11, V12, V13, VE, Nat.reduceBEq, Nat.reduceAdd, Nat.reduceSub, Nat.reduceMul, Nat.reduceLeDiff, Nat.reduceLT, Nat.reduceEqDiff, Int.reduceBEq, Int.reduceBNe, Int.reduceLT, Int.reduceLE, Int.reduceAdd, Int.reduceSub, Int.reduceMul, kAgg, scD, List.all_cons, List.all_nil]
            refine ⟨by show x.size + 1 ≤ _; omega, m + 1, Enter.mk [] [] [] ?_, by omega, by show n - (m + 1) < n - m; omega⟩
            simp only [hx1, word, nums, nats, zv, nv, bv, sv, VL, VB, BEq.rfl, V1, V2, V3, V4, V5, V6, V7, V8, V9, V10, V11, V12, V13, VE, Nat.reduceBEq, Nat.reduceAdd, Nat.reduceSub, Nat.reduceMul, Nat.reduceLeDiff, Nat.reduceLT, Nat.reduceEqDiff, Int.reduceBEq, Int.reduceBNe, Int.reduceLT, Int.reduceLE, Int.reduceAdd, Int.reduceSub, Int.reduceMul, kAgg, scD, List.all_cons, List.all_nil]
            rfl
        · have hm' : m = n := by
            have : ¬ m < n := by simpa using h
            omega
          subst hm'
          rw [hx] at hps
          have hp0 : partsTo p lv 0 = [] := rfl
          rw [hp0, List.nil_append] at hps
          simp only [word, nums, nats, zv, nv, bv, sv, VL, VB, BEq.rfl, V1, V2, V3, V4, V5, V6, V7, V8, V9, V10, V11, V12, V13, VE, Nat.reduceBEq, Nat.reduceAdd, Nat.reduceSub, Nat.reduceMul, Nat.reduceLeDiff, Nat.reduceLT, Nat.reduceEqDiff, Int.reduceBEq, Int.reduceBNe, Int.reduceLT, Int.reduceLE, Int.reduceAdd, Int.reduceSub, Int.reduceMul, kAgg, scD, List.all_cons, List.all_nil]
          refine ⟨hal x, 1, Enter.mk [] [] [(1000, 50)] ?_, rfl, by omega⟩
          simp only [shapeSt, hps, List.map_cons, List.map_nil, str_def, word, nums, nats, zv, nv, bv, sv, VL, VB, BEq.rfl, V1, V2, V3, V4, V5, V6, V7, V8, V9, V10, V11, V12, V13, VE, Nat.reduceBEq, Nat.reduceAdd, Nat.reduceSub, Nat.reduceMul, Nat.reduceLeDiff, Nat.reduceLT, Nat.reduceEqDiff, Int.reduceBEq, Int.reduceBNe, Int.reduceLT, Int.reduceLE, Int.reduceAdd, Int.reduceSub, Int.reduceMul, kAgg, scD, List.all_cons, List.all_nil]
      | succ y =>
        simp only [shapeSt, hs2, syl_def, hsm, List.length_map, hsn, word, nums, nats, zv, nv, bv, sv, VL, VB, BEq.rfl, V1, V2, V3, V4, V5, V6, V7, V8, V9, V10, V11, V12, V13, VE, Nat.reduceBEq, Nat.reduceAdd, Nat.reduceSub, Nat.reduceMul, Nat.reduceLeDiff, Nat.reduceLT, Nat.reduceEqDiff, Int.reduceBEq, Int.reduceBNe, Int.reduceLT, Int.reduceLE, Int.reduceAdd, Int.reduceSub, Int.reduceMul, kAgg, scD, List.all_cons, List.all_nil]
        refine ⟨⟨⟨by omega, by omega, by omega⟩, allLen_nat lv⟩, ?_⟩
        refine LoopVC.mk (Y := Nat) (fun m => m ≤ n) (fun m => ⟨[(2, .bp 2 0), (7, .bp 7 0), (8, .bp 8 0), (10, sv (segF (pkL p lv) ByteArray.empty s.b m)), (32, .c (nats sub)), (33, nv n), (34, nv m)], [(2, .cells [.c (word sc), zv p]), (7, .cells [.c (nats lv)]), (8, .cells [.osl 1000 0]), (1000, .arr 9 0 ((partsTo p lv (y + 1)).map str))]⟩) (fun m => n - m) ⟨0, Enter.mk [] [] [] ?_, by omega⟩ ?_
        · simp only [segF, word, nums, nats, zv, nv, bv, sv, VL, VB, BEq.rfl, V1, V2, V3, V4, V5, V6, V7, V8, V9, V10, V11, V12, V13, VE, Nat.reduceBEq, Nat.reduceAdd, Nat.reduceSub, Nat.reduceMul, Nat.reduceLeDiff, Nat.reduceLT, Nat.reduceEqDiff, Int.reduceBEq, Int.reduceBNe, Int.reduceLT, Int.reduceLE, Int.reduceAdd, Int.reduceSub, Int.reduceMul, kAgg, scD, List.all_cons, List.all_nil]
          exact ⟨rfl, rfl⟩
        intro m hm
        obtain ⟨x, hx⟩ : ∃ x, segF (pkL p lv) ByteArray.empty s.b m = x := ⟨_, rfl⟩
        have hxs := segF_size (pkL p lv) ByteArray.empty s.b m
        have hx1 : segF (pkL p lv) ByteArray.empty s.b (m + 1) = x ++ (if pkL p lv (s.b + m) = true then chV else chC) := by rw [segF, hx]
        rw [hx] at hxs
        have hes : (ByteArray.empty).size = 0 := rfl
        simp only [hx, lt_nat, word, nums, nats, zv, nv, bv, sv, VL, VB, BEq.rfl, V1, V2, V3, V4, V5, V6, V7, V8, V9, V10, V11, V12, V13, VE, Nat.reduceBEq, Nat.reduceAdd, Nat.reduceSub, Nat.reduceMul, Nat.reduceLeDiff, Nat.reduceLT, Nat.reduceEqDiff, Int.reduceBEq, Int.reduceBNe, Int.reduceLT, Int.reduceLE, Int.reduceAdd, Int.reduceSub, Int.reduceMul, kAgg, scD, List.all_cons, List.all_nil]
        refine guardB.mk (fun h => ?_) (fun h => ?_)
        · have hm' : m < n := by simpa using h
          clear h
          have hgs := getD_nat sub m (by omega)
          rw [hsg m hm'] at hgs
          rw [pkL] at hx1
          obtain ⟨c, hc2⟩ : ∃ c, lv.getD (s.b + m) 0 = c := ⟨_, rfl⟩
          rw [hc2] at hgs hx1
          simp only [hgs, nat_def, word, nums, nats, zv, nv, bv, sv, VL, VB, BEq.rfl, V1, V2, V3, V4, V5, V6, V7, V8, V9, V10, V11, V12, V13, VE, Nat.reduceBEq, Nat.reduceAdd, Nat.reduceSub, Nat.reduceMul, Nat.reduceLeDiff, Nat.reduceLT, Nat.reduceEqDiff, Int.reduceBEq, Int.reduceBNe, Int.reduceLT, Int.reduceLE, Int.reduceAdd, Int.reduceSub, Int.reduceMul, kAgg, scD, List.all_cons, List.all_nil]
          refine ⟨⟨Int.natCast_nonneg _, by omega⟩, ?_⟩
          refine guardB.mk (fun h => ?_) (fun h => ?_)
          · rw [h, if_pos rfl] at hx1
            simp only [h, wrap_nat (k := m) (by omega), word, nums, nats, zv, nv, bv, sv, VL, VB, BEq.rfl, V1, V2, V3, V4, V5, V6, V7, V8, V9, V10, V11, V12, V13, VE, Nat.reduceBEq, Nat.reduceAdd, Nat.reduceSub, Nat.reduceMul, Nat.reduceLeDiff, Nat.reduceLT, Nat.reduceEqDiff, Int.reduceBEq, Int.reduceBNe, Int.reduceLT, Int.reduceLE, Int.reduceAdd, Int.reduceSub, Int.reduceMul, kAgg, scD, List.all_cons, List.all_nil]
            refine ⟨by show x.size + 1 ≤ _; omega, m + 1, Enter.mk [] [] [] ?_, by omega, by show n - (m + 1) < n - m; omega⟩
            simp only [hx1, word, nums, nats, zv, nv, bv, sv, VL, VB, BEq.rfl, V1, V2, V3, V4, V5, V6, V7, V8, V9, V10, V11, V12, V13, VE, Nat.reduceBEq, Nat.reduceAdd, Nat.reduceSub, Nat.reduceMul, Nat.reduceLeDiff, Nat.reduceLT, Nat.reduceEqDiff, Int.reduceBEq, Int.reduceBNe, Int.reduceLT, Int.reduceLE, Int.reduceAdd, Int.reduceSub, Int.reduceMul, kAgg, scD, List.all_cons, List.all_nil]
            rfl
          · rw [h, if_neg (by simp)] at hx1
            simp only [h, wrap_nat (k := m) (by omega), word, nums, nats, zv, nv, bv, sv, VL, VB, BEq.rfl, V1, V2, V3, V4, V5, V6, V7, V8, V9, V10, V11, V12, V13, VE, Nat.reduceBEq, Nat.reduceAdd, Nat.reduceSub, Nat.reduceMul, Nat.reduceLeDiff, Nat.reduceLT, Nat.reduceEqDiff, Int.reduceBEq, Int.reduceBNe, Int.reduceLT, Int.reduceLE, Int.reduceAdd, Int.reduceSub, Int.reduceMul, kAgg, scD, List.all_cons, List.all_nil]
            refine ⟨by show x.size + 1 ≤ _; omega, m + 1, Enter.mk [] [] [] ?_, by omega, by show n - (m + 1) < n - m; omega⟩
            simp only [hx1, word, nums, nats, zv, nv, bv, sv, VL, VB, BEq.rfl, V1, V2, V3, V4, V5, V6, V7, V8, V9, V10, V11, V12, V13, VE, Nat.reduceBEq, Nat.reduceAdd, Nat.reduceSub, Nat.reduceMul, Nat.reduceLeDiff, Nat.reduceLT, Nat.reduceEqDiff, Int.reduceBEq, Int.reduceBNe, Int.reduceLT, Int.reduceLE, Int.reduceAdd, Int.reduceSub, Int.reduceMul, kAgg, scD, List.all_cons, List.all_nil]
            rfl
        · have hm' : m = n := by
            have : ¬ m < n := by simpa using h
            omega
          subst hm'
          rw [hx] at hps
          simp only [word, nums, nats, zv, nv, bv, sv, VL, VB, BEq.rfl, V1, V2, V3, V4, V5, V6, V7, V8, V9, V10, V11, V12, V13, VE, Nat.reduceBEq, Nat.reduceAdd, Nat.reduceSub, Nat.reduceMul, Nat.reduceLeDiff, Nat.reduceLT, Nat.reduceEqDiff, Int.reduceBEq, Int.reduceBNe, Int.reduceLT, Int.reduceLE, Int.reduceAdd, Int.reduceSub, Int.reduceMul, kAgg, scD, List.all_cons, List.all_nil]
          have hal : AllLen 1 [str x] := allLen_str [x]
          refine ⟨⟨by omega, hal⟩, y + 2, Enter.mk [] [] [] ?_, rfl, by omega⟩
          simp only [shapeSt, hps, List.map_append, List.map_cons, List.map_nil, str_def, word, nums, nats, zv, nv, bv, sv, VL, VB, BEq.rfl, V1, V2, V3, V4, V5, V6, V7, V8, V9, V10, V11, V12, V13, VE, Nat.reduceBEq, Nat.reduceAdd, Nat.reduceSub, Nat.reduceMul, Nat.reduceLeDiff, Nat.reduceLT, Nat.reduceEqDiff, Int.reduceBEq, Int.reduceBNe, Int.reduceLT, Int.reduceLE, Int.reduceAdd, Int.reduceSub, Int.reduceMul, kAgg, scD, List.all_cons, List.all_nil]
    · rintro y ⟨rfl, hk⟩
      have hlen : (sylES p lv).length = (splitL p lv).length := by rw [sylES, List.length_map]
      rw [hlen]
      rw [strs] at hjo
      cases hz : (splitL p lv).length with
      | zero =>
        have he : partsTo p lv 0 = [] := rfl
        rw [hz, he] at hjo
        simp only [he, shapeSt, word, nums, nats, zv, nv, bv, sv, VL, VB, BEq.rfl, V1, V2, V3, V4, V5, V6, V7, V8, V9, V10, V11, V12, V13, VE, Nat.reduceBEq, Nat.reduceAdd, Nat.reduceSub, Nat.reduceMul, Nat.reduceLeDiff, Nat.reduceLT, Nat.reduceEqDiff, Int.reduceBEq, Int.reduceBNe, Int.reduceLT, Int.reduceLE, Int.reduceAdd, Int.reduceSub, Int.reduceMul, kAgg, scD, List.all_cons, List.all_nil]
        refine CallX.mk hjo rfl ?_
        simp only [word, nums, nats, zv, nv, bv, sv, VL, VB, BEq.rfl, V1, V2, V3, V4, V5, V6, V7, V8, V9, V10, V11, V12, V13, VE, Nat.reduceBEq, Nat.reduceAdd, Nat.reduceSub, Nat.reduceMul, Nat.reduceLeDiff, Nat.reduceLT, Nat.reduceEqDiff, Int.reduceBEq, Int.reduceBNe, Int.reduceLT, Int.reduceLE, Int.reduceAdd, Int.reduceSub, Int.reduceMul, kAgg, scD, List.all_cons, List.all_nil]
      | succ y =>
        rw [hz] at hjo
        simp only [shapeSt, word, nums, nats, zv, nv, bv, sv, VL, VB, BEq.rfl, V1, V2, V3, V4, V5, V6, V7, V8, V9, V10, V11, V12, V13, VE, Nat.reduceBEq, Nat.reduceAdd, Nat.reduceSub, Nat.reduceMul, Nat.reduceLeDiff, Nat.reduceLT, Nat.reduceEqDiff, Int.reduceBEq, Int.reduceBNe, Int.reduceLT, Int.reduceLE, Int.reduceAdd, Int.reduceSub, Int.reduceMul, kAgg, scD, List.all_cons, List.all_nil]
        refine CallX.mk hjo rfl ?_
        simp only [word, nums, nats, zv, nv, bv, sv, VL, VB, BEq.rfl, V1, V2, V3, V4, V5, V6, V7, V8, V9, V10, V11, V12, V13, VE, Nat.reduceBEq, Nat.reduceAdd, Nat.reduceSub, Nat.reduceMul, Nat.reduceLeDiff, Nat.reduceLT, Nat.reduceEqDiff, Int.reduceBEq, Int.reduceBNe, Int.reduceLT, Int.reduceLE, Int.reduceAdd, Int.reduceSub, Int.reduceMul, kAgg, scD, List.all_cons, List.all_nil]
  · have h1 : (checkE sc p [w] != 0) = true := by simpa using hc
    simp only [h1, if_neg hc, word, nums, nats, zv, nv, bv, sv, VL, VB, BEq.rfl, V1, V2, V3, V4, V5, V6, V7, V8, V9, V10, V11, V12, V13, VE, Nat.reduceBEq, Nat.reduceAdd, Nat.reduceSub, Nat.reduceMul, Nat.reduceLeDiff, Nat.reduceLT, Nat.reduceEqDiff, Int.reduceBEq, Int.reduceBNe, Int.reduceLT, Int.reduceLE, Int.reduceAdd, Int.reduceSub, Int.reduceMul, kAgg, scD, List.all_cons, List.all_nil]
    rfl
end Go.Cp
end

section
set_option linter.unusedVariables false
set_option linter.unusedSimpArgs false
set_option maxHeartbeats 4000000
set_option maxRecDepth 10000
namespace Go.Cp
open Go Go.Proofs Go.Vx

theorem bytes_ext {a b : ByteArray} (h : a.data.toList = b.data.toList) : a = b := by
  cases a; cases b
  congr 1
  exact Array.toList_inj.1 h
theorem toL_append (a b : ByteArray) : (a ++ b).data.toList = a.data.toList ++ b.data.toList := by simp [ByteArray.data_append]
theorem segF_split (pk : Nat → Bool) (o : ByteArray) (b : Nat) : ∀ m, (segF pk o b m).data.toList = o.data.toList ++ (segF pk ByteArray.empty b m).data.toList
  | 0 => by show _ = _ ++ []; rw [List.append_nil]; rfl
  | m + 1 => by
    rw [segF, segF, toL_append, toL_append, segF_split pk o b m, List.append_assoc]
theorem joinTail_snoc (sep : List UInt8) (r : List (List UInt8)) (x : List UInt8) : Lib.joinTail sep (r ++ [x]) = Lib.joinTail sep r ++ (sep ++ x) := by
  simp [Lib.joinTail]
theorem join_snoc (sep : List UInt8) {xs : List (List UInt8)} (x : List UInt8) (h : xs ≠ []) : Lib.join (xs ++ [x]) sep = Lib.join xs sep ++ (sep ++ x) := by
  cases xs with
  | nil => exact absurd rfl h
  | cons a r => rw [List.cons_append, Lib.join_cons, Lib.join_cons, joinTail_snoc, List.append_assoc]
theorem shape_join (pk : Nat → Bool) (ss : List Syl) : ∀ k, k ≤ ss.length → (shapeTo pk ss k).data.toList = Lib.join (((ss.take k).map fun s => segF pk ByteArray.empty s.b (s.e - s.b)).map (·.data.toList)) chDot.data.toList
  | 0, _ => rfl
  | k + 1, hk => by
    have ih := shape_join pk ss k (by omega)
    rw [shapeTo, segF_split, List.take_add_one, List.getElem?_eq_getElem (show k < ss.length by omega), getD_of Syl.zero ss k (by omega)]
    rw [show (some ss[k]).toList = [ss[k]] from rfl, List.map_append, List.map_append]
    by_cases h : 0 < k
    · rw [if_pos h]
      rw [show List.map (·.data.toList) (List.map (fun s => segF pk ByteArray.empty s.b (s.e - s.b)) [ss[k]]) = [(segF pk ByteArray.empty ss[k].b (ss[k].e - ss[k].b)).data.toList] from rfl]
      rw [join_snoc, ← ih, toL_append, List.append_assoc]
      intro h2
      have := congrArg List.length h2
      rw [List.length_map, List.length_map, List.length_take, List.length_nil] at this
      omega
    · have h0 : k = 0 := by omega
      subst h0
      rw [if_neg h]
      show [] ++ _ = Lib.join [_] _
      rw [Lib.join_one, List.nil_append]
theorem pk_same {sc : List Snd} {p : Int} {w : List Snd} (hr : okR sc p = true) {s : Syl} : ∀ m, s.b + m ≤ w.length → segF (fun i => peakB sc p (w.getD i Snd.zero)) ByteArray.empty s.b m = segF (pkL p (lev sc w)) ByteArray.empty s.b m
  | 0, _ => rfl
  | m + 1, h => by
    rw [segF, segF, pk_same hr m (by omega)]
    have e : peakB sc p (w.getD (s.b + m) Snd.zero) = pkL p (lev sc w) (s.b + m) := by
      rw [pkL, lev_at (by omega), peakB, sonN, if_pos hr]
    rw [e]
theorem parts_shape {sc : List Snd} {p : Int} {w : List Snd} (hc : checkE sc p [w] = 0) : (shapeS sc p w).data.toList = Lib.join ((partsTo p (lev sc w) (splitL p (lev sc w)).length).map (·.data.toList)) chDot.data.toList := by
  have hr := (checkE_zero hc).1
  rw [shapeS, splitS, if_pos hc, shape_join _ _ _ (Nat.le_refl _), partsTo, List.take_length]
  congr 2
  refine List.map_congr_left fun s hs => ?_
  obtain ⟨h1, h2, h3, h4, _⟩ := splitL_in hs
  rw [lev_len] at h4
  rw [segS]
  exact pk_same hr _ (by omega)
theorem Shape_of (hJ : JoinOk) (sc : List Snd) (p : Int) (w : List Snd) (hsc : AllIn sc) (hw : AllIn w) : Ok Try.prog E 25 [.ag (ruleD sc p), .c (word w)] (.tp [sv (shapeS sc p w), zv (checkE sc p [w])]) := by
  have h := Shape_walk hJ sc p w hsc hw (fun hc => by
    rw [← parts_shape hc]
    have hsz : (shapeS sc p w).size ≤ 33 * 32 := by
      have hl := splitS_len sc p w
      have := shapeTo_size (fun i => peakB sc p (w.getD i Snd.zero)) (splitS sc p w) (fun s hs => Nat.le_trans (splitS_in hs).2.2.2.1 (checkE_zero hc).2) _ (Nat.le_refl _)
      rw [shapeS]; omega
    have : (shapeS sc p w).data.toList.length = (shapeS sc p w).size := Array.length_toList
    omega)
  by_cases hc : checkE sc p [w] = 0
  · have e : joinB chDot (partsTo p (lev sc w) (splitL p (lev sc w)).length) = shapeS sc p w := bytes_ext (by rw [parts_shape hc]; rfl)
    rw [if_pos hc, e] at h
    exact h
  · have e : shapeS sc p w = ByteArray.empty := by rw [shapeS, splitS, if_neg hc]; rfl
    rw [if_neg hc, ← e] at h
    exact h
end Go.Cp
end

section
set_option linter.unusedVariables false
set_option linter.unusedSimpArgs false
set_option maxHeartbeats 4000000
set_option maxRecDepth 10000
namespace Go.Cp
open Go Go.Proofs Go.Vx

def collV : List Syl → AV
  | [] => .c (.sc (.slice none 0 0))
  | _ :: _ => .osl 1 0
def collB : List Syl → List (Nat × Box)
  | [] => []
  | s :: r => [(1, .arr 39 0 ((s :: r).map Syl.enc))]
def collSt (ss : List Syl) : Nat → S
  | 0 => ⟨[(2, .bp 2 0)], [(2, .cells [.c (.sc (.slice none 0 0))])]⟩
  | k + 1 => ⟨[(2, .bp 2 0)], [(2, .cells [.osl 1000 0]), (1000, .arr 39 0 ((ss.take (k + 1)).map Syl.enc))]⟩
abbrev seqBx (sc : List Snd) (p : Int) (lv : List Nat) : List (Nat × Box) := [(2001, .cells [.c (nats lv)]), (2002, .cells [.c (word sc), zv p])]
theorem take_syl {ss : List Syl} {k : Nat} (h : k < ss.length) : (ss.take (k + 1)).map Syl.enc = (ss.take k).map Syl.enc ++ [(ss.getD k Syl.zero).enc] := by
  rw [List.take_add_one, List.getElem?_eq_getElem h, getD_of Syl.zero _ k h, List.map_append]; rfl
theorem appendSeq_ok (sc : List Snd) (p : Int) (lv : List Nat) (hn : lv.length ≤ 32) : OkH Try.prog E 56 [.c (.sc (.slice none 0 0)), .fn 57 [.bp 2001 0, .bp 2002 0]] (seqBx sc p lv) (collV (splitL p lv)) (collB (splitL p lv)) := by
  refine okH_of_vc (L := []) (ts := [4]) envOK mixed Try.func56 rfl (by kernel_rfl) rfl (by decide) (by kernel_rfl) rfl fun hl hlb => ?_
  have hsl := splitL_len p lv
  have hlen : (sylES p lv).length = (splitL p lv).length := by rw [sylES, List.length_map]
  simp only [Try.f56, seqBx, word, nums, nats, zv, nv, bv, sv, VL, VB, BEq.rfl, V1, V2, V3, V4, V5, V6, V7, V8, V9, V10, V11, V12, V13, VE, Nat.reduceBEq, Nat.reduceAdd, Nat.reduceSub, Nat.reduceMul, Nat.reduceLeDiff, Nat.reduceLT, Nat.reduceEqDiff, Int.reduceBEq, Int.reduceBNe, Int.reduceLT, Int.reduceLE, Int.reduceAdd, Int.reduceSub, Int.reduceMul, kAgg, scD, List.all_cons, List.all_nil]
  refine RangeVC.mk (Y := Nat) [] [] [] (syl_seq sc p lv hn) (fun k y => y = k ∧ k ≤ (splitL p lv).length) (collSt (splitL p lv)) rfl ?_ ?_ ⟨0, ?_, rfl, by omega⟩ ?_ ?_
  · simp only [word, nums, nats, zv, nv, bv, sv, VL, VB, BEq.rfl, V1, V2, V3, V4, V5, V6, V7, V8, V9, V10, V11, V12, V13, VE, Nat.reduceBEq, Nat.reduceAdd, Nat.reduceSub, Nat.reduceMul, Nat.reduceLeDiff, Nat.reduceLT, Nat.reduceEqDiff, Int.reduceBEq, Int.reduceBNe, Int.reduceLT, Int.reduceLE, Int.reduceAdd, Int.reduceSub, Int.reduceMul, kAgg, scD, List.all_cons, List.all_nil]
  · intro e he
    simp only [sylES, List.mem_map] at he
    obtain ⟨i, _, rfl⟩ := he
    rfl
  · simp only [collSt, word, nums, nats, zv, nv, bv, sv, VL, VB, BEq.rfl, V1, V2, V3, V4, V5, V6, V7, V8, V9, V10, V11, V12, V13, VE, Nat.reduceBEq, Nat.reduceAdd, Nat.reduceSub, Nat.reduceMul, Nat.reduceLeDiff, Nat.reduceLT, Nat.reduceEqDiff, Int.reduceBEq, Int.reduceBNe, Int.reduceLT, Int.reduceLE, Int.reduceAdd, Int.reduceSub, Int.reduceMul, kAgg, scD, List.all_cons, List.all_nil]
  · rintro k e y he ⟨rfl, hk⟩
    have hk' : y < (splitL p lv).length := by
      have := (List.getElem?_eq_some_iff.1 he).1
      rwa [hlen] at this
    have hget : (sylES p lv)[y]? = some [.ag ((splitL p lv).getD y Syl.zero).enc] := by
      rw [sylES, getD_of Syl.zero _ y hk', List.getElem?_map, List.getElem?_eq_getElem hk']; rfl
    rw [hget] at he
    injection he with he
    subst he
    have hps := take_syl hk'
    obtain ⟨s, hs2⟩ : ∃ s, (splitL p lv).getD y Syl.zero = s := ⟨_, rfl⟩
    rw [hs2] at hps
    have hal := allLen_syl [s]
    have htl : (((splitL p lv).take y).map Syl.enc).length ≤ 33 := by rw [List.length_map, List.length_take]; omega
    cases y with
    | zero =>
      simp only [collSt, hs2, Syl.enc, word, nums, nats, zv, nv, bv, sv, VL, VB, BEq.rfl, V1, V2, V3, V4, V5, V6, V7, V8, V9, V10, V11, V12, V13, VE, Nat.reduceBEq, Nat.reduceAdd, Nat.reduceSub, Nat.reduceMul, Nat.reduceLeDiff, Nat.reduceLT, Nat.reduceEqDiff, Int.reduceBEq, Int.reduceBNe, Int.reduceLT, Int.reduceLE, Int.reduceAdd, Int.reduceSub, Int.reduceMul, kAgg, scD, List.all_cons, List.all_nil]
      refine ⟨hal, 1, Enter.mk [] [] [(1000, 11)] ?_, rfl, by omega⟩
      rw [List.take_zero, List.map_nil, List.nil_append] at hps
      simp only [collSt, hps, Syl.enc, word, nums, nats, zv, nv, bv, sv, VL, VB, BEq.rfl, V1, V2, V3, V4, V5, V6, V7, V8, V9, V10, V11, V12, V13, VE, Nat.reduceBEq, Nat.reduceAdd, Nat.reduceSub, Nat.reduceMul, Nat.reduceLeDiff, Nat.reduceLT, Nat.reduceEqDiff, Int.reduceBEq, Int.reduceBNe, Int.reduceLT, Int.reduceLE, Int.reduceAdd, Int.reduceSub, Int.reduceMul, kAgg, scD, List.all_cons, List.all_nil]
    | succ y =>
      simp only [collSt, hs2, Syl.enc, word, nums, nats, zv, nv, bv, sv, VL, VB, BEq.rfl, V1, V2, V3, V4, V5, V6, V7, V8, V9, V10, V11, V12, V13, VE, Nat.reduceBEq, Nat.reduceAdd, Nat.reduceSub, Nat.reduceMul, Nat.reduceLeDiff, Nat.reduceLT, Nat.reduceEqDiff, Int.reduceBEq, Int.reduceBNe, Int.reduceLT, Int.reduceLE, Int.reduceAdd, Int.reduceSub, Int.reduceMul, kAgg, scD, List.all_cons, List.all_nil]
      rw [List.length_map] at htl
      refine ⟨⟨by omega, hal⟩, y + 2, Enter.mk [] [] [] ?_, rfl, by omega⟩
      simp only [collSt, hps, Syl.enc, word, nums, nats, zv, nv, bv, sv, VL, VB, BEq.rfl, V1, V2, V3, V4, V5, V6, V7, V8, V9, V10, V11, V12, V13, VE, Nat.reduceBEq, Nat.reduceAdd, Nat.reduceSub, Nat.reduceMul, Nat.reduceLeDiff, Nat.reduceLT, Nat.reduceEqDiff, Int.reduceBEq, Int.reduceBNe, Int.reduceLT, Int.reduceLE, Int.reduceAdd, Int.reduceSub, Int.reduceMul, kAgg, scD, List.all_cons, List.all_nil]
  · rintro y ⟨rfl, hk⟩
    rw [hlen]
    generalize splitL p lv = ss
    cases ss with
    | nil =>
      simp only [collSt, List.length_nil, collV, collB, word, nums, nats, zv, nv, bv, sv, VL, VB, BEq.rfl, V1, V2, V3, V4, V5, V6, V7, V8, V9, V10, V11, V12, V13, VE, Nat.reduceBEq, Nat.reduceAdd, Nat.reduceSub, Nat.reduceMul, Nat.reduceLeDiff, Nat.reduceLT, Nat.reduceEqDiff, Int.reduceBEq, Int.reduceBNe, Int.reduceLT, Int.reduceLE, Int.reduceAdd, Int.reduceSub, Int.reduceMul, kAgg, scD, List.all_cons, List.all_nil]
      refine Enter.mk [] [] [] ?_
      simp only [word, nums, nats, zv, nv, bv, sv, VL, VB, BEq.rfl, V1, V2, V3, V4, V5, V6, V7, V8, V9, V10, V11, V12, V13, VE, Nat.reduceBEq, Nat.reduceAdd, Nat.reduceSub, Nat.reduceMul, Nat.reduceLeDiff, Nat.reduceLT, Nat.reduceEqDiff, Int.reduceBEq, Int.reduceBNe, Int.reduceLT, Int.reduceLE, Int.reduceAdd, Int.reduceSub, Int.reduceMul, kAgg, scD, List.all_cons, List.all_nil]
    | cons s r =>
      have e1 : (s :: r).take (r.length + 1) = s :: r := List.take_length (l := s :: r)
      simp only [collSt, List.length_cons, e1, collV, collB, word, nums, nats, zv, nv, bv, sv, VL, VB, BEq.rfl, V1, V2, V3, V4, V5, V6, V7, V8, V9, V10, V11, V12, V13, VE, Nat.reduceBEq, Nat.reduceAdd, Nat.reduceSub, Nat.reduceMul, Nat.reduceLeDiff, Nat.reduceLT, Nat.reduceEqDiff, Int.reduceBEq, Int.reduceBNe, Int.reduceLT, Int.reduceLE, Int.reduceAdd, Int.reduceSub, Int.reduceMul, kAgg, scD, List.all_cons, List.all_nil]
      refine Enter.mk [] [] [(1, 1000)] ?_
      simp only [List.map_cons, word, nums, nats, zv, nv, bv, sv, VL, VB, BEq.rfl, V1, V2, V3, V4, V5, V6, V7, V8, V9, V10, V11, V12, V13, VE, Nat.reduceBEq, Nat.reduceAdd, Nat.reduceSub, Nat.reduceMul, Nat.reduceLeDiff, Nat.reduceLT, Nat.reduceEqDiff, Int.reduceBEq, Int.reduceBNe, Int.reduceLT, Int.reduceLE, Int.reduceAdd, Int.reduceSub, Int.reduceMul, kAgg, scD, List.all_cons, List.all_nil]
theorem collect_ok (sc : List Snd) (p : Int) (lv : List Nat) (hn : lv.length ≤ 32) : OkH Try.prog E 32 [.fn 57 [.bp 2001 0, .bp 2002 0]] (seqBx sc p lv) (collV (splitL p lv)) (collB (splitL p lv)) := by
  refine okH_of_vc (L := []) (ts := [2]) envOK mixed Try.func32 rfl (by kernel_rfl) rfl (by decide) (by kernel_rfl) rfl fun hl hlb => ?_
  have h56 := appendSeq_ok sc p lv hn
  simp only [Try.f32, seqBx, word, nums, nats, zv, nv, bv, sv, VL, VB, BEq.rfl, V1, V2, V3, V4, V5, V6, V7, V8, V9, V10, V11, V12, V13, VE, Nat.reduceBEq, Nat.reduceAdd, Nat.reduceSub, Nat.reduceMul, Nat.reduceLeDiff, Nat.reduceLT, Nat.reduceEqDiff, Int.reduceBEq, Int.reduceBNe, Int.reduceLT, Int.reduceLE, Int.reduceAdd, Int.reduceSub, Int.reduceMul, kAgg, scD, List.all_cons, List.all_nil]
  revert h56
  generalize splitL p lv = ss
  intro h56
  cases ss with
  | nil =>
    refine CallMVC.hand [] [] h56 ?_ ?_
    · simp only [seqBx, collB, word, nums, nats, zv, nv, bv, sv, VL, VB, BEq.rfl, V1, V2, V3, V4, V5, V6, V7, V8, V9, V10, V11, V12, V13, VE, Nat.reduceBEq, Nat.reduceAdd, Nat.reduceSub, Nat.reduceMul, Nat.reduceLeDiff, Nat.reduceLT, Nat.reduceEqDiff, Int.reduceBEq, Int.reduceBNe, Int.reduceLT, Int.reduceLE, Int.reduceAdd, Int.reduceSub, Int.reduceMul, kAgg, scD, List.all_cons, List.all_nil]
    simp only [collV, collB, word, nums, nats, zv, nv, bv, sv, VL, VB, BEq.rfl, V1, V2, V3, V4, V5, V6, V7, V8, V9, V10, V11, V12, V13, VE, Nat.reduceBEq, Nat.reduceAdd, Nat.reduceSub, Nat.reduceMul, Nat.reduceLeDiff, Nat.reduceLT, Nat.reduceEqDiff, Int.reduceBEq, Int.reduceBNe, Int.reduceLT, Int.reduceLE, Int.reduceAdd, Int.reduceSub, Int.reduceMul, kAgg, scD, List.all_cons, List.all_nil]
    refine Enter.mk [] [] [] ?_
    simp only [word, nums, nats, zv, nv, bv, sv, VL, VB, BEq.rfl, V1, V2, V3, V4, V5, V6, V7, V8, V9, V10, V11, V12, V13, VE, Nat.reduceBEq, Nat.reduceAdd, Nat.reduceSub, Nat.reduceMul, Nat.reduceLeDiff, Nat.reduceLT, Nat.reduceEqDiff, Int.reduceBEq, Int.reduceBNe, Int.reduceLT, Int.reduceLE, Int.reduceAdd, Int.reduceSub, Int.reduceMul, kAgg, scD, List.all_cons, List.all_nil]
  | cons s r =>
    refine CallMVC.hand [] [] h56 ?_ ?_
    · simp only [seqBx, collB, word, nums, nats, zv, nv, bv, sv, VL, VB, BEq.rfl, V1, V2, V3, V4, V5, V6, V7, V8, V9, V10, V11, V12, V13, VE, Nat.reduceBEq, Nat.reduceAdd, Nat.reduceSub, Nat.reduceMul, Nat.reduceLeDiff, Nat.reduceLT, Nat.reduceEqDiff, Int.reduceBEq, Int.reduceBNe, Int.reduceLT, Int.reduceLE, Int.reduceAdd, Int.reduceSub, Int.reduceMul, kAgg, scD, List.all_cons, List.all_nil]
    simp only [collV, collB, word, nums, nats, zv, nv, bv, sv, VL, VB, BEq.rfl, V1, V2, V3, V4, V5, V6, V7, V8, V9, V10, V11, V12, V13, VE, Nat.reduceBEq, Nat.reduceAdd, Nat.reduceSub, Nat.reduceMul, Nat.reduceLeDiff, Nat.reduceLT, Nat.reduceEqDiff, Int.reduceBEq, Int.reduceBNe, Int.reduceLT, Int.reduceLE, Int.reduceAdd, Int.reduceSub, Int.reduceMul, kAgg, scD, List.all_cons, List.all_nil]
    refine Enter.mk [] [] [] ?_
    simp only [List.map_cons, word, nums, nats, zv, nv, bv, sv, VL, VB, BEq.rfl, V1, V2, V3, V4, V5, V6, V7, V8, V9, V10, V11, V12, V13, VE, Nat.reduceBEq, Nat.reduceAdd, Nat.reduceSub, Nat.reduceMul, Nat.reduceLeDiff, Nat.reduceLT, Nat.reduceEqDiff, Int.reduceBEq, Int.reduceBNe, Int.reduceLT, Int.reduceLE, Int.reduceAdd, Int.reduceSub, Int.reduceMul, kAgg, scD, List.all_cons, List.all_nil]
theorem Split_ok (sc : List Snd) (p : Int) (w : List Snd) (hsc : AllIn sc) (hw : AllIn w) : Ok Try.prog E 13 [.ag (ruleD sc p), .c (word w)] (.tp [.c (syls (splitS sc p w)), zv (checkE sc p [w])]) := by
  refine ok_of_vc (L := [(4, [(4, 4), (0, 3)])]) (ts := [4, 5]) envOK mixed Try.func13 rfl (by kernel_rfl) rfl (by kernel_rfl) rfl fun hl => ?_
  simp only [Try.f13, word, nums, nats, zv, nv, bv, sv, VL, VB, BEq.rfl, V1, V2, V3, V4, V5, V6, V7, V8, V9, V10, V11, V12, V13, VE, Nat.reduceBEq, Nat.reduceAdd, Nat.reduceSub, Nat.reduceMul, Nat.reduceLeDiff, Nat.reduceLT, Nat.reduceEqDiff, Int.reduceBEq, Int.reduceBNe, Int.reduceLT, Int.reduceLE, Int.reduceAdd, Int.reduceSub, Int.reduceMul, kAgg, scD, List.all_cons, List.all_nil]
  have hck := check_ok sc p [w] hsc (allIn_one hw)
  simp only [wordsD, List.map_cons, List.map_nil] at hck
  refine CallX.mk hck rfl ?_
  by_cases hc : checkE sc p [w] = 0
  · obtain ⟨hr, hwl⟩ := checkE_zero hc
    have hn : sc.length ≤ 12 := by
      simp only [okR, Bool.and_eq_true, decide_eq_true_eq] at hr
      exact hr.1
    have hlo := Ok.val (levels_ok sc p w hsc hw hn hwl)
    have hlv := lev_len sc w
    rw [splitS, if_pos hc]
    revert hlo hlv
    generalize lev sc w = lv
    intro hlo hlv
    have h32 := collect_ok sc p lv (by omega)
    simp only [hc, word, nums, nats, zv, nv, bv, sv, VL, VB, BEq.rfl, V1, V2, V3, V4, V5, V6, V7, V8, V9, V10, V11, V12, V13, VE, Nat.reduceBEq, Nat.reduceAdd, Nat.reduceSub, Nat.reduceMul, Nat.reduceLeDiff, Nat.reduceLT, Nat.reduceEqDiff, Int.reduceBEq, Int.reduceBNe, Int.reduceLT, Int.reduceLE, Int.reduceAdd, Int.reduceSub, Int.reduceMul, kAgg, scD, List.all_cons, List.all_nil]
    refine CallX.mk hlo rfl ?_
    simp only [word, nums, nats, zv, nv, bv, sv, VL, VB, BEq.rfl, V1, V2, V3, V4, V5, V6, V7, V8, V9, V10, V11, V12, V13, VE, Nat.reduceBEq, Nat.reduceAdd, Nat.reduceSub, Nat.reduceMul, Nat.reduceLeDiff, Nat.reduceLT, Nat.reduceEqDiff, Int.reduceBEq, Int.reduceBNe, Int.reduceLT, Int.reduceLE, Int.reduceAdd, Int.reduceSub, Int.reduceMul, kAgg, scD, List.all_cons, List.all_nil]
    refine CallX.mut (CallMVC.mk [] [(2001, 25), (2002, 3002)] (syllables_ok sc p lv) ?_ ?_)
    · simp only [word, nums, nats, zv, nv, bv, sv, VL, VB, BEq.rfl, V1, V2, V3, V4, V5, V6, V7, V8, V9, V10, V11, V12, V13, VE, Nat.reduceBEq, Nat.reduceAdd, Nat.reduceSub, Nat.reduceMul, Nat.reduceLeDiff, Nat.reduceLT, Nat.reduceEqDiff, Int.reduceBEq, Int.reduceBNe, Int.reduceLT, Int.reduceLE, Int.reduceAdd, Int.reduceSub, Int.reduceMul, kAgg, scD, List.all_cons, List.all_nil]
    simp only [word, nums, nats, zv, nv, bv, sv, VL, VB, BEq.rfl, V1, V2, V3, V4, V5, V6, V7, V8, V9, V10, V11, V12, V13, VE, Nat.reduceBEq, Nat.reduceAdd, Nat.reduceSub, Nat.reduceMul, Nat.reduceLeDiff, Nat.reduceLT, Nat.reduceEqDiff, Int.reduceBEq, Int.reduceBNe, Int.reduceLT, Int.reduceLE, Int.reduceAdd, Int.reduceSub, Int.reduceMul, kAgg, scD, List.all_cons, List.all_nil]
    revert h32
    generalize splitL p lv = ss
    intro h32
    cases ss with
    | nil =>
      refine CallMVC.hand [] [(2001, 25), (2002, 3002)] h32 ?_ ?_
      · simp only [seqBx, collB, word, nums, nats, zv, nv, bv, sv, VL, VB, BEq.rfl, V1, V2, V3, V4, V5, V6, V7, V8, V9, V10, V11, V12, V13, VE, Nat.reduceBEq, Nat.reduceAdd, Nat.reduceSub, Nat.reduceMul, Nat.reduceLeDiff, Nat.reduceLT, Nat.reduceEqDiff, Int.reduceBEq, Int.reduceBNe, Int.reduceLT, Int.reduceLE, Int.reduceAdd, Int.reduceSub, Int.reduceMul, kAgg, scD, List.all_cons, List.all_nil]
      simp only [collV, collB, word, nums, nats, zv, nv, bv, sv, VL, VB, BEq.rfl, V1, V2, V3, V4, V5, V6, V7, V8, V9, V10, V11, V12, V13, VE, Nat.reduceBEq, Nat.reduceAdd, Nat.reduceSub, Nat.reduceMul, Nat.reduceLeDiff, Nat.reduceLT, Nat.reduceEqDiff, Int.reduceBEq, Int.reduceBNe, Int.reduceLT, Int.reduceLE, Int.reduceAdd, Int.reduceSub, Int.reduceMul, kAgg, scD, List.all_cons, List.all_nil]
      rfl
    | cons s r =>
      refine CallMVC.hand [] [(2001, 25), (2002, 3002)] h32 ?_ ?_
      · simp only [seqBx, collB, word, nums, nats, zv, nv, bv, sv, VL, VB, BEq.rfl, V1, V2, V3, V4, V5, V6, V7, V8, V9, V10, V11, V12, V13, VE, Nat.reduceBEq, Nat.reduceAdd, Nat.reduceSub, Nat.reduceMul, Nat.reduceLeDiff, Nat.reduceLT, Nat.reduceEqDiff, Int.reduceBEq, Int.reduceBNe, Int.reduceLT, Int.reduceLE, Int.reduceAdd, Int.reduceSub, Int.reduceMul, kAgg, scD, List.all_cons, List.all_nil]
      simp only [collV, collB, List.map_cons, word, nums, nats, zv, nv, bv, sv, VL, VB, BEq.rfl, V1, V2, V3, V4, V5, V6, V7, V8, V9, V10, V11, V12, V13, VE, Nat.reduceBEq, Nat.reduceAdd, Nat.reduceSub, Nat.reduceMul, Nat.reduceLeDiff, Nat.reduceLT, Nat.reduceEqDiff, Int.reduceBEq, Int.reduceBNe, Int.reduceLT, Int.reduceLE, Int.reduceAdd, Int.reduceSub, Int.reduceMul, kAgg, scD, List.all_cons, List.all_nil]
      rfl
  · have h1 : (checkE sc p [w] != 0) = true := by simpa using hc
    rw [splitS, if_neg hc]
    simp only [h1, word, nums, nats, zv, nv, bv, sv, VL, VB, BEq.rfl, V1, V2, V3, V4, V5, V6, V7, V8, V9, V10, V11, V12, V13, VE, Nat.reduceBEq, Nat.reduceAdd, Nat.reduceSub, Nat.reduceMul, Nat.reduceLeDiff, Nat.reduceLT, Nat.reduceEqDiff, Int.reduceBEq, Int.reduceBNe, Int.reduceLT, Int.reduceLE, Int.reduceAdd, Int.reduceSub, Int.reduceMul, kAgg, scD, List.all_cons, List.all_nil]
    rfl
end Go.Cp
end
