/-
  SyllPlaces returns true for every input: the stress is on a syllable; it is the first or the last one, the last but one or but two, or a heavy one, as the mode says. Conditions: none.
-/
import Derived.Test.YtmiieofmhncfbaaMJ
import Derived.Test.YtmiieofmhncfbaaMP
set_option linter.unusedVariables false
set_option linter.unusedSimpArgs false
set_option maxHeartbeats 8000000
set_option maxRecDepth 100000
namespace Go.Cp
open Go Go.Proofs Go.Vx

def modeI : Nat → Int
  | 1 => 1
  | 2 => 2
  | 3 => 3
  | 4 => 4
  | 5 => 5
  | 6 => 6
  | _ => 7
/-- the places when the modes below m are done -/
def plcs (s1 s2 s3 s4 s5 s6 : Nat) : Nat → List AV
  | 1 => [zv 0, zv 0, zv 0, zv 0, zv 0, zv 0, zv 0]
  | 2 => [zv 0, nv s1, zv 0, zv 0, zv 0, zv 0, zv 0]
  | 3 => [zv 0, nv s1, nv s2, zv 0, zv 0, zv 0, zv 0]
  | 4 => [zv 0, nv s1, nv s2, nv s3, zv 0, zv 0, zv 0]
  | 5 => [zv 0, nv s1, nv s2, nv s3, nv s4, zv 0, zv 0]
  | 6 => [zv 0, nv s1, nv s2, nv s3, nv s4, nv s5, zv 0]
  | _ => [zv 0, nv s1, nv s2, nv s3, nv s4, nv s5, nv s6]
def heavyN (hv : List Bool) (k : Nat) : Nat := ((hv.take k).filter id).length
theorem heavyN_succ {hv : List Bool} {k : Nat} (hk : k < hv.length) : heavyN hv (k + 1) = heavyN hv k + (if hv.getD k false = true then 1 else 0) := by
  rw [heavyN, heavyN, List.take_add_one, List.getElem?_eq_getElem hk, List.filter_append, List.length_append, getD_of false hv k hk]
  cases hv[k] <;> rfl
theorem heavyN_le (hv : List Bool) (k : Nat) : heavyN hv k ≤ k := by
  have h1 := List.length_filter_le id (hv.take k)
  rw [List.length_take] at h1
  rw [heavyN]; omega
theorem heavyN_zero (hv : List Bool) : heavyN hv hv.length = 0 ↔ hv.any id = false := by
  rw [heavyN, List.take_length, List.length_eq_zero_iff, List.filter_eq_nil_iff, List.any_eq_false]
theorem places_law (sc : List Snd) (p : Int) (w : List Snd) (hsc : AllIn sc) (hw : AllIn w) : Ok Try.prog E 5 [.ag (ruleD sc p), .c (word w)] (bv true) := by
  refine ok_of_vc (L := []) (ts := [4]) envOK mixed Try.func5 rfl (by kernel_rfl) rfl (by kernel_rfl) rfl fun hl => ?_
  simp only [Try.f5, word, nums, nats, zv, nv, bv, sv, beq_self_eq_true, VL, VB, BEq.rfl, V1, V2, V3, V4, V5, V6, V7, V8, V9, V10, V11, V12, V13, VE, Nat.reduceBEq, Nat.reduceAdd, Nat.reduceSub, Nat.reduceMul, Nat.reduceLeDiff, Nat.reduceLT, Nat.reduceEqDiff, Int.reduceBEq, Int.reduceBNe, Int.reduceLT, Int.reduceLE, Int.reduceAdd, Int.reduceSub, Int.reduceMul, kAgg, scD, List.all_cons, List.all_nil]
  refine CallX.mk (Heavy_ok sc p w hsc hw) rfl ?_
  by_cases hc : checkE sc p [w] = 0
  case neg =>
    have h1 : (checkE sc p [w] != 0) = true := by simpa using hc
    simp only [h1, bols, word, nums, nats, zv, nv, bv, sv, beq_self_eq_true, VL, VB, BEq.rfl, V1, V2, V3, V4, V5, V6, V7, V8, V9, V10, V11, V12, V13, VE, Nat.reduceBEq, Nat.reduceAdd, Nat.reduceSub, Nat.reduceMul, Nat.reduceLeDiff, Nat.reduceLT, Nat.reduceEqDiff, Int.reduceBEq, Int.reduceBNe, Int.reduceLT, Int.reduceLE, Int.reduceAdd, Int.reduceSub, Int.reduceMul, kAgg, scD, List.all_cons, List.all_nil]
    refine CallX.mk works_ok rfl ?_
    simp only [word, nums, nats, zv, nv, bv, sv, beq_self_eq_true, VL, VB, BEq.rfl, V1, V2, V3, V4, V5, V6, V7, V8, V9, V10, V11, V12, V13, VE, Nat.reduceBEq, Nat.reduceAdd, Nat.reduceSub, Nat.reduceMul, Nat.reduceLeDiff, Nat.reduceLT, Nat.reduceEqDiff, Int.reduceBEq, Int.reduceBNe, Int.reduceLT, Int.reduceLE, Int.reduceAdd, Int.reduceSub, Int.reduceMul, kAgg, scD, List.all_cons, List.all_nil]
  have hst : ∀ m : Int, 1 ≤ m → m ≤ 6 → (heavyS sc p w).length ≠ 0 → Ok Try.prog E 19 [.ag (ruleD sc p), .c (word w), zv m] (.tp [nv (stressT (heavyS sc p w) m), zv 0]) := fun m h1 h2 h3 => by
    have h := Stress_ok sc p w m hsc hw
    have e1 : stressE sc p w m = 0 := by
      rw [stressE, if_pos hc, if_neg (by omega), if_neg h3]
    rw [stressV, e1, if_pos rfl] at h
    exact h
  have hh : (heavyS sc p w).length ≤ 32 := by rw [heavyS, heavyOf, List.length_map]; exact splitS_len sc p w
  revert hst hh
  generalize heavyS sc p w = hv
  intro hst hh
  by_cases hz : hv.length = 0
  · have e0 : ((hv.length : Int) == 0) = true := by rw [hz]; rfl
    simp only [e0, bols, List.length_map, hc, bne_self_eq_false, word, nums, nats, zv, nv, bv, sv, beq_self_eq_true, VL, VB, BEq.rfl, V1, V2, V3, V4, V5, V6, V7, V8, V9, V10, V11, V12, V13, VE, Nat.reduceBEq, Nat.reduceAdd, Nat.reduceSub, Nat.reduceMul, Nat.reduceLeDiff, Nat.reduceLT, Nat.reduceEqDiff, Int.reduceBEq, Int.reduceBNe, Int.reduceLT, Int.reduceLE, Int.reduceAdd, Int.reduceSub, Int.reduceMul, kAgg, scD, List.all_cons, List.all_nil]
    refine CallX.mk works_ok rfl ?_
    simp only [bols, List.length_map, hc, bne_self_eq_false, word, nums, nats, zv, nv, bv, sv, beq_self_eq_true, VL, VB, BEq.rfl, V1, V2, V3, V4, V5, V6, V7, V8, V9, V10, V11, V12, V13, VE, Nat.reduceBEq, Nat.reduceAdd, Nat.reduceSub, Nat.reduceMul, Nat.reduceLeDiff, Nat.reduceLT, Nat.reduceEqDiff, Int.reduceBEq, Int.reduceBNe, Int.reduceLT, Int.reduceLE, Int.reduceAdd, Int.reduceSub, Int.reduceMul, kAgg, scD, List.all_cons, List.all_nil]
  have e0 : ((hv.length : Int) == 0) = false := by
    rw [int_beq]; exact decide_eq_false (by omega)
  simp only [e0, bols, List.length_map, hc, bne_self_eq_false, word, nums, nats, zv, nv, bv, sv, beq_self_eq_true, VL, VB, BEq.rfl, V1, V2, V3, V4, V5, V6, V7, V8, V9, V10, V11, V12, V13, VE, Nat.reduceBEq, Nat.reduceAdd, Nat.reduceSub, Nat.reduceMul, Nat.reduceLeDiff, Nat.reduceLT, Nat.reduceEqDiff, Int.reduceBEq, Int.reduceBNe, Int.reduceLT, Int.reduceLE, Int.reduceAdd, Int.reduceSub, Int.reduceMul, kAgg, scD, List.all_cons, List.all_nil]
  obtain ⟨n, hn⟩ : ∃ n, hv.length = n := ⟨_, rfl⟩
  refine LoopVC.mk (Y := Nat) (fun k => k ≤ n) (fun k => ⟨[(1, .c (word w)), (2, .bp 2 0), (5, .c (bols hv)), (7, nv n), (8, nv (heavyN hv k)), (9, nv k)], [(2, .cells [.c (word sc), zv p])]⟩) (fun k => n - k) ⟨0, Enter.mk [] [] [] ?_, by omega⟩ ?_
  · simp only [hn, bols, List.length_map, hc, bne_self_eq_false, word, nums, nats, zv, nv, bv, sv, beq_self_eq_true, VL, VB, BEq.rfl, V1, V2, V3, V4, V5, V6, V7, V8, V9, V10, V11, V12, V13, VE, Nat.reduceBEq, Nat.reduceAdd, Nat.reduceSub, Nat.reduceMul, Nat.reduceLeDiff, Nat.reduceLT, Nat.reduceEqDiff, Int.reduceBEq, Int.reduceBNe, Int.reduceLT, Int.reduceLE, Int.reduceAdd, Int.reduceSub, Int.reduceMul, kAgg, scD, List.all_cons, List.all_nil]
    exact ⟨rfl, rfl⟩
  intro k hk
  simp only [lt_nat, bols, List.length_map, hc, bne_self_eq_false, word, nums, nats, zv, nv, bv, sv, beq_self_eq_true, VL, VB, BEq.rfl, V1, V2, V3, V4, V5, V6, V7, V8, V9, V10, V11, V12, V13, VE, Nat.reduceBEq, Nat.reduceAdd, Nat.reduceSub, Nat.reduceMul, Nat.reduceLeDiff, Nat.reduceLT, Nat.reduceEqDiff, Int.reduceBEq, Int.reduceBNe, Int.reduceLT, Int.reduceLE, Int.reduceAdd, Int.reduceSub, Int.reduceMul, kAgg, scD, List.all_cons, List.all_nil]
  refine guardB.mk (fun h => ?_) (fun h => ?_)
  · have hk' : k < n := by simpa using h
    have hk2 : k < hv.length := by omega
    have e1 : (0 : Int) ≤ (k : Int) := Int.natCast_nonneg k
    have hs := heavyN_succ hk2
    have hle := heavyN_le hv k
    have hg := getD_bol hv k hk2
    obtain ⟨b, hb⟩ : ∃ b, hv.getD k false = b := ⟨_, rfl⟩
    rw [hb] at hs hg
    cases b with
    | true =>
      rw [if_pos rfl] at hs
      simp only [h, e1, hk2, hg, bol_def, wrap_nat (k := k) (by omega), wrap_nat (k := heavyN hv k) (by omega), bols, List.length_map, hc, bne_self_eq_false, word, nums, nats, zv, nv, bv, sv, beq_self_eq_true, VL, VB, BEq.rfl, V1, V2, V3, V4, V5, V6, V7, V8, V9, V10, V11, V12, V13, VE, Nat.reduceBEq, Nat.reduceAdd, Nat.reduceSub, Nat.reduceMul, Nat.reduceLeDiff, Nat.reduceLT, Nat.reduceEqDiff, Int.reduceBEq, Int.reduceBNe, Int.reduceLT, Int.reduceLE, Int.reduceAdd, Int.reduceSub, Int.reduceMul, kAgg, scD, List.all_cons, List.all_nil]
      refine ⟨k + 1, Enter.mk [] [] [] ?_, by omega, by show n - (k + 1) < n - k; omega⟩
      simp only [hs, bols, List.length_map, hc, bne_self_eq_false, word, nums, nats, zv, nv, bv, sv, beq_self_eq_true, VL, VB, BEq.rfl, V1, V2, V3, V4, V5, V6, V7, V8, V9, V10, V11, V12, V13, VE, Nat.reduceBEq, Nat.reduceAdd, Nat.reduceSub, Nat.reduceMul, Nat.reduceLeDiff, Nat.reduceLT, Nat.reduceEqDiff, Int.reduceBEq, Int.reduceBNe, Int.reduceLT, Int.reduceLE, Int.reduceAdd, Int.reduceSub, Int.reduceMul, kAgg, scD, List.all_cons, List.all_nil]
    | false =>
      rw [if_neg (by simp)] at hs
      simp only [h, e1, hk2, hg, bol_def, wrap_nat (k := k) (by omega), bols, List.length_map, hc, bne_self_eq_false, word, nums, nats, zv, nv, bv, sv, beq_self_eq_true, VL, VB, BEq.rfl, V1, V2, V3, V4, V5, V6, V7, V8, V9, V10, V11, V12, V13, VE, Nat.reduceBEq, Nat.reduceAdd, Nat.reduceSub, Nat.reduceMul, Nat.reduceLeDiff, Nat.reduceLT, Nat.reduceEqDiff, Int.reduceBEq, Int.reduceBNe, Int.reduceLT, Int.reduceLE, Int.reduceAdd, Int.reduceSub, Int.reduceMul, kAgg, scD, List.all_cons, List.all_nil]
      refine ⟨k + 1, Enter.mk [] [] [] ?_, by omega, by show n - (k + 1) < n - k; omega⟩
      simp only [hs, bols, List.length_map, hc, bne_self_eq_false, word, nums, nats, zv, nv, bv, sv, beq_self_eq_true, VL, VB, BEq.rfl, V1, V2, V3, V4, V5, V6, V7, V8, V9, V10, V11, V12, V13, VE, Nat.reduceBEq, Nat.reduceAdd, Nat.reduceSub, Nat.reduceMul, Nat.reduceLeDiff, Nat.reduceLT, Nat.reduceEqDiff, Int.reduceBEq, Int.reduceBNe, Int.reduceLT, Int.reduceLE, Int.reduceAdd, Int.reduceSub, Int.reduceMul, kAgg, scD, List.all_cons, List.all_nil]
  have hk' : k = n := by
    have : ¬ k < n := by simpa using h
    omega
  subst hk'
  simp only [h, bols, List.length_map, hc, bne_self_eq_false, word, nums, nats, zv, nv, bv, sv, beq_self_eq_true, VL, VB, BEq.rfl, V1, V2, V3, V4, V5, V6, V7, V8, V9, V10, V11, V12, V13, VE, Nat.reduceBEq, Nat.reduceAdd, Nat.reduceSub, Nat.reduceMul, Nat.reduceLeDiff, Nat.reduceLT, Nat.reduceEqDiff, Int.reduceBEq, Int.reduceBNe, Int.reduceLT, Int.reduceLE, Int.reduceAdd, Int.reduceSub, Int.reduceMul, kAgg, scD, List.all_cons, List.all_nil]
  have hpos : 0 < hv.length := by omega
  have q1 := hst 1 (by omega) (by omega) hz
  have l1 := stressT_lt hpos 1
  have q2 := hst 2 (by omega) (by omega) hz
  have l2 := stressT_lt hpos 2
  have q3 := hst 3 (by omega) (by omega) hz
  have l3 := stressT_lt hpos 3
  have q4 := hst 4 (by omega) (by omega) hz
  have l4 := stressT_lt hpos 4
  have q5 := hst 5 (by omega) (by omega) hz
  have l5 := stressT_lt hpos 5
  have q6 := hst 6 (by omega) (by omega) hz
  have l6 := stressT_lt hpos 6
  have t1 := st1 hv
  have t2 := st2 hv
  have t3 := st3 hv
  have t4 := st4 hv
  have t5 := st5 hv
  have t6 := st6 hv
  obtain ⟨s1, hs1⟩ : ∃ s, stressT hv 1 = s := ⟨_, rfl⟩
  rw [hs1] at q1 l1 t1
  obtain ⟨s2, hs2⟩ : ∃ s, stressT hv 2 = s := ⟨_, rfl⟩
  rw [hs2] at q2 l2 t2
  obtain ⟨s3, hs3⟩ : ∃ s, stressT hv 3 = s := ⟨_, rfl⟩
  rw [hs3] at q3 l3 t3
  obtain ⟨s4, hs4⟩ : ∃ s, stressT hv 4 = s := ⟨_, rfl⟩
  rw [hs4] at q4 l4 t4
  obtain ⟨s5, hs5⟩ : ∃ s, stressT hv 5 = s := ⟨_, rfl⟩
  rw [hs5] at q5 l5 t5
  obtain ⟨s6, hs6⟩ : ∃ s, stressT hv 6 = s := ⟨_, rfl⟩
  rw [hs6] at q6 l6 t6
  rw [hn] at l1 l2 l3 l4 l5 l6 t2 t3 t4
  clear hs1 hs2 hs3 hs4 hs5 hs6 hst
  refine LoopVC.mk (Y := Nat) (fun m => 1 ≤ m ∧ m ≤ 7) (fun m => ⟨[(1, .c (word w)), (2, .bp 2 0), (5, .c (bols hv)), (7, nv k), (8, nv (heavyN hv k)), (10, .bp 10 0), (11, zv (modeI m))], [(2, .cells [.c (word sc), zv p]), (10, .cells (plcs s1 s2 s3 s4 s5 s6 m))]⟩) (fun m => 7 - m) ⟨1, Enter.mk [] [] [] ?_, by omega⟩ ?_
  · simp only [plcs, modeI, bols, List.length_map, hc, bne_self_eq_false, word, nums, nats, zv, nv, bv, sv, beq_self_eq_true, VL, VB, BEq.rfl, V1, V2, V3, V4, V5, V6, V7, V8, V9, V10, V11, V12, V13, VE, Nat.reduceBEq, Nat.reduceAdd, Nat.reduceSub, Nat.reduceMul, Nat.reduceLeDiff, Nat.reduceLT, Nat.reduceEqDiff, Int.reduceBEq, Int.reduceBNe, Int.reduceLT, Int.reduceLE, Int.reduceAdd, Int.reduceSub, Int.reduceMul, kAgg, scD, List.all_cons, List.all_nil]
  rintro m ⟨hm1, hm2⟩
  have wr2 : IntKind.i64.wrap 2 = 2 := rfl
  have wr3 : IntKind.i64.wrap 3 = 3 := rfl
  have wr4 : IntKind.i64.wrap 4 = 4 := rfl
  have wr5 : IntKind.i64.wrap 5 = 5 := rfl
  have wr6 : IntKind.i64.wrap 6 = 6 := rfl
  have wr7 : IntKind.i64.wrap 7 = 7 := rfl
  have tn1 : Int.toNat 1 = 1 := rfl
  have tn2 : Int.toNat 2 = 2 := rfl
  have tn3 : Int.toNat 3 = 3 := rfl
  have tn4 : Int.toNat 4 = 4 := rfl
  have tn5 : Int.toNat 5 = 5 := rfl
  have tn6 : Int.toNat 6 = 6 := rfl
  match m, hm1, hm2 with
  | 1, _, _ =>
    have f1 : decide ((s1 : Int) < 0) = false := decide_eq_false (by omega)
    have f2 : decide ((k : Int) ≤ (s1 : Int)) = false := decide_eq_false (by omega)
    simp only [plcs, modeI, wr2, wr3, wr4, wr5, wr6, wr7, tn1, tn2, tn3, tn4, tn5, tn6, bols, List.length_map, hc, bne_self_eq_false, word, nums, nats, zv, nv, bv, sv, beq_self_eq_true, VL, VB, BEq.rfl, V1, V2, V3, V4, V5, V6, V7, V8, V9, V10, V11, V12, V13, VE, Nat.reduceBEq, Nat.reduceAdd, Nat.reduceSub, Nat.reduceMul, Nat.reduceLeDiff, Nat.reduceLT, Nat.reduceEqDiff, Int.reduceBEq, Int.reduceBNe, Int.reduceLT, Int.reduceLE, Int.reduceAdd, Int.reduceSub, Int.reduceMul, kAgg, scD, List.all_cons, List.all_nil]
    refine CallX.mk q1 rfl ?_
    simp only [f1, f2, wr2, wr3, wr4, wr5, wr6, wr7, tn1, tn2, tn3, tn4, tn5, tn6, bols, List.length_map, hc, bne_self_eq_false, word, nums, nats, zv, nv, bv, sv, beq_self_eq_true, VL, VB, BEq.rfl, V1, V2, V3, V4, V5, V6, V7, V8, V9, V10, V11, V12, V13, VE, Nat.reduceBEq, Nat.reduceAdd, Nat.reduceSub, Nat.reduceMul, Nat.reduceLeDiff, Nat.reduceLT, Nat.reduceEqDiff, Int.reduceBEq, Int.reduceBNe, Int.reduceLT, Int.reduceLE, Int.reduceAdd, Int.reduceSub, Int.reduceMul, kAgg, scD, List.all_cons, List.all_nil]
    refine ⟨2, Enter.mk [] [] [] ?_, by omega, by decide⟩
    simp only [plcs, modeI, wr2, wr3, wr4, wr5, wr6, wr7, tn1, tn2, tn3, tn4, tn5, tn6, bols, List.length_map, hc, bne_self_eq_false, word, nums, nats, zv, nv, bv, sv, beq_self_eq_true, VL, VB, BEq.rfl, V1, V2, V3, V4, V5, V6, V7, V8, V9, V10, V11, V12, V13, VE, Nat.reduceBEq, Nat.reduceAdd, Nat.reduceSub, Nat.reduceMul, Nat.reduceLeDiff, Nat.reduceLT, Nat.reduceEqDiff, Int.reduceBEq, Int.reduceBNe, Int.reduceLT, Int.reduceLE, Int.reduceAdd, Int.reduceSub, Int.reduceMul, kAgg, scD, List.all_cons, List.all_nil]
  | 2, _, _ =>
    have f1 : decide ((s2 : Int) < 0) = false := decide_eq_false (by omega)
    have f2 : decide ((k : Int) ≤ (s2 : Int)) = false := decide_eq_false (by omega)
    simp only [plcs, modeI, wr2, wr3, wr4, wr5, wr6, wr7, tn1, tn2, tn3, tn4, tn5, tn6, bols, List.length_map, hc, bne_self_eq_false, word, nums, nats, zv, nv, bv, sv, beq_self_eq_true, VL, VB, BEq.rfl, V1, V2, V3, V4, V5, V6, V7, V8, V9, V10, V11, V12, V13, VE, Nat.reduceBEq, Nat.reduceAdd, Nat.reduceSub, Nat.reduceMul, Nat.reduceLeDiff, Nat.reduceLT, Nat.reduceEqDiff, Int.reduceBEq, Int.reduceBNe, Int.reduceLT, Int.reduceLE, Int.reduceAdd, Int.reduceSub, Int.reduceMul, kAgg, scD, List.all_cons, List.all_nil]
    refine CallX.mk q2 rfl ?_
    simp only [f1, f2, wr2, wr3, wr4, wr5, wr6, wr7, tn1, tn2, tn3, tn4, tn5, tn6, bols, List.length_map, hc, bne_self_eq_false, word, nums, nats, zv, nv, bv, sv, beq_self_eq_true, VL, VB, BEq.rfl, V1, V2, V3, V4, V5, V6, V7, V8, V9, V10, V11, V12, V13, VE, Nat.reduceBEq, Nat.reduceAdd, Nat.reduceSub, Nat.reduceMul, Nat.reduceLeDiff, Nat.reduceLT, Nat.reduceEqDiff, Int.reduceBEq, Int.reduceBNe, Int.reduceLT, Int.reduceLE, Int.reduceAdd, Int.reduceSub, Int.reduceMul, kAgg, scD, List.all_cons, List.all_nil]
    refine ⟨3, Enter.mk [] [] [] ?_, by omega, by decide⟩
    simp only [plcs, modeI, wr2, wr3, wr4, wr5, wr6, wr7, tn1, tn2, tn3, tn4, tn5, tn6, bols, List.length_map, hc, bne_self_eq_false, word, nums, nats, zv, nv, bv, sv, beq_self_eq_true, VL, VB, BEq.rfl, V1, V2, V3, V4, V5, V6, V7, V8, V9, V10, V11, V12, V13, VE, Nat.reduceBEq, Nat.reduceAdd, Nat.reduceSub, Nat.reduceMul, Nat.reduceLeDiff, Nat.reduceLT, Nat.reduceEqDiff, Int.reduceBEq, Int.reduceBNe, Int.reduceLT, Int.reduceLE, Int.reduceAdd, Int.reduceSub, Int.reduceMul, kAgg, scD, List.all_cons, List.all_nil]
  | 3, _, _ =>
    have f1 : decide ((s3 : Int) < 0) = false := decide_eq_false (by omega)
    have f2 : decide ((k : Int) ≤ (s3 : Int)) = false := decide_eq_false (by omega)
    simp only [plcs, modeI, wr2, wr3, wr4, wr5, wr6, wr7, tn1, tn2, tn3, tn4, tn5, tn6, bols, List.length_map, hc, bne_self_eq_false, word, nums, nats, zv, nv, bv, sv, beq_self_eq_true, VL, VB, BEq.rfl, V1, V2, V3, V4, V5, V6, V7, V8, V9, V10, V11, V12, V13, VE, Nat.reduceBEq, Nat.reduceAdd, Nat.reduceSub, Nat.reduceMul, Nat.reduceLeDiff, Nat.reduceLT, Nat.reduceEqDiff, Int.reduceBEq, Int.reduceBNe, Int.reduceLT, Int.reduceLE, Int.reduceAdd, Int.reduceSub, Int.reduceMul, kAgg, scD, List.all_cons, List.all_nil]
    refine CallX.mk q3 rfl ?_
    simp only [f1, f2, wr2, wr3, wr4, wr5, wr6, wr7, tn1, tn2, tn3, tn4, tn5, tn6, bols, List.length_map, hc, bne_self_eq_false, word, nums, nats, zv, nv, bv, sv, beq_self_eq_true, VL, VB, BEq.rfl, V1, V2, V3, V4, V5, V6, V7, V8, V9, V10, V11, V12, V13, VE, Nat.reduceBEq, Nat.reduceAdd, Nat.reduceSub, Nat.reduceMul, Nat.reduceLeDiff, Nat.reduceLT, Nat.reduceEqDiff, Int.reduceBEq, Int.reduceBNe, Int.reduceLT, Int.reduceLE, Int.reduceAdd, Int.reduceSub, Int.reduceMul, kAgg, scD, List.all_cons, List.all_nil]
    refine ⟨4, Enter.mk [] [] [] ?_, by omega, by decide⟩
    simp only [plcs, modeI, wr2, wr3, wr4, wr5, wr6, wr7, tn1, tn2, tn3, tn4, tn5, tn6, bols, List.length_map, hc, bne_self_eq_false, word, nums, nats, zv, nv, bv, sv, beq_self_eq_true, VL, VB, BEq.rfl, V1, V2, V3, V4, V5, V6, V7, V8, V9, V10, V11, V12, V13, VE, Nat.reduceBEq, Nat.reduceAdd, Nat.reduceSub, Nat.reduceMul, Nat.reduceLeDiff, Nat.reduceLT, Nat.reduceEqDiff, Int.reduceBEq, Int.reduceBNe, Int.reduceLT, Int.reduceLE, Int.reduceAdd, Int.reduceSub, Int.reduceMul, kAgg, scD, List.all_cons, List.all_nil]
  | 4, _, _ =>
    have f1 : decide ((s4 : Int) < 0) = false := decide_eq_false (by omega)
    have f2 : decide ((k : Int) ≤ (s4 : Int)) = false := decide_eq_false (by omega)
    simp only [plcs, modeI, wr2, wr3, wr4, wr5, wr6, wr7, tn1, tn2, tn3, tn4, tn5, tn6, bols, List.length_map, hc, bne_self_eq_false, word, nums, nats, zv, nv, bv, sv, beq_self_eq_true, VL, VB, BEq.rfl, V1, V2, V3, V4, V5, V6, V7, V8, V9, V10, V11, V12, V13, VE, Nat.reduceBEq, Nat.reduceAdd, Nat.reduceSub, Nat.reduceMul, Nat.reduceLeDiff, Nat.reduceLT, Nat.reduceEqDiff, Int.reduceBEq, Int.reduceBNe, Int.reduceLT, Int.reduceLE, Int.reduceAdd, Int.reduceSub, Int.reduceMul, kAgg, scD, List.all_cons, List.all_nil]
    refine CallX.mk q4 rfl ?_
    simp only [f1, f2, wr2, wr3, wr4, wr5, wr6, wr7, tn1, tn2, tn3, tn4, tn5, tn6, bols, List.length_map, hc, bne_self_eq_false, word, nums, nats, zv, nv, bv, sv, beq_self_eq_true, VL, VB, BEq.rfl, V1, V2, V3, V4, V5, V6, V7, V8, V9, V10, V11, V12, V13, VE, Nat.reduceBEq, Nat.reduceAdd, Nat.reduceSub, Nat.reduceMul, Nat.reduceLeDiff, Nat.reduceLT, Nat.reduceEqDiff, Int.reduceBEq, Int.reduceBNe, Int.reduceLT, Int.reduceLE, Int.reduceAdd, Int.reduceSub, Int.reduceMul, kAgg, scD, List.all_cons, List.all_nil]
    refine ⟨5, Enter.mk [] [] [] ?_, by omega, by decide⟩
    simp only [plcs, modeI, wr2, wr3, wr4, wr5, wr6, wr7, tn1, tn2, tn3, tn4, tn5, tn6, bols, List.length_map, hc, bne_self_eq_false, word, nums, nats, zv, nv, bv, sv, beq_self_eq_true, VL, VB, BEq.rfl, V1, V2, V3, V4, V5, V6, V7, V8, V9, V10, V11, V12, V13, VE, Nat.reduceBEq, Nat.reduceAdd, Nat.reduceSub, Nat.reduceMul, Nat.reduceLeDiff, Nat.reduceLT, Nat.reduceEqDiff, Int.reduceBEq, Int.reduceBNe, Int.reduceLT, Int.reduceLE, Int.reduceAdd, Int.reduceSub, Int.reduceMul, kAgg, scD, List.all_cons, List.all_nil]
  | 5, _, _ =>
    have f1 : decide ((s5 : Int) < 0) = false := decide_eq_false (by omega)
    have f2 : decide ((k : Int) ≤ (s5 : Int)) = false := decide_eq_false (by omega)
    simp only [plcs, modeI, wr2, wr3, wr4, wr5, wr6, wr7, tn1, tn2, tn3, tn4, tn5, tn6, bols, List.length_map, hc, bne_self_eq_false, word, nums, nats, zv, nv, bv, sv, beq_self_eq_true, VL, VB, BEq.rfl, V1, V2, V3, V4, V5, V6, V7, V8, V9, V10, V11, V12, V13, VE, Nat.reduceBEq, Nat.reduceAdd, Nat.reduceSub, Nat.reduceMul, Nat.reduceLeDiff, Nat.reduceLT, Nat.reduceEqDiff, Int.reduceBEq, Int.reduceBNe, Int.reduceLT, Int.reduceLE, Int.reduceAdd, Int.reduceSub, Int.reduceMul, kAgg, scD, List.all_cons, List.all_nil]
    refine CallX.mk q5 rfl ?_
    simp only [f1, f2, wr2, wr3, wr4, wr5, wr6, wr7, tn1, tn2, tn3, tn4, tn5, tn6, bols, List.length_map, hc, bne_self_eq_false, word, nums, nats, zv, nv, bv, sv, beq_self_eq_true, VL, VB, BEq.rfl, V1, V2, V3, V4, V5, V6, V7, V8, V9, V10, V11, V12, V13, VE, Nat.reduceBEq, Nat.reduceAdd, Nat.reduceSub, Nat.reduceMul, Nat.reduceLeDiff, Nat.reduceLT, Nat.reduceEqDiff, Int.reduceBEq, Int.reduceBNe, Int.reduceLT, Int.reduceLE, Int.reduceAdd, Int.reduceSub, Int.reduceMul, kAgg, scD, List.all_cons, List.all_nil]
    refine ⟨6, Enter.mk [] [] [] ?_, by omega, by decide⟩
    simp only [plcs, modeI, wr2, wr3, wr4, wr5, wr6, wr7, tn1, tn2, tn3, tn4, tn5, tn6, bols, List.length_map, hc, bne_self_eq_false, word, nums, nats, zv, nv, bv, sv, beq_self_eq_true, VL, VB, BEq.rfl, V1, V2, V3, V4, V5, V6, V7, V8, V9, V10, V11, V12, V13, VE, Nat.reduceBEq, Nat.reduceAdd, Nat.reduceSub, Nat.reduceMul, Nat.reduceLeDiff, Nat.reduceLT, Nat.reduceEqDiff, Int.reduceBEq, Int.reduceBNe, Int.reduceLT, Int.reduceLE, Int.reduceAdd, Int.reduceSub, Int.reduceMul, kAgg, scD, List.all_cons, List.all_nil]
  | 6, _, _ =>
    have f1 : decide ((s6 : Int) < 0) = false := decide_eq_false (by omega)
    have f2 : decide ((k : Int) ≤ (s6 : Int)) = false := decide_eq_false (by omega)
    simp only [plcs, modeI, wr2, wr3, wr4, wr5, wr6, wr7, tn1, tn2, tn3, tn4, tn5, tn6, bols, List.length_map, hc, bne_self_eq_false, word, nums, nats, zv, nv, bv, sv, beq_self_eq_true, VL, VB, BEq.rfl, V1, V2, V3, V4, V5, V6, V7, V8, V9, V10, V11, V12, V13, VE, Nat.reduceBEq, Nat.reduceAdd, Nat.reduceSub, Nat.reduceMul, Nat.reduceLeDiff, Nat.reduceLT, Nat.reduceEqDiff, Int.reduceBEq, Int.reduceBNe, Int.reduceLT, Int.reduceLE, Int.reduceAdd, Int.reduceSub, Int.reduceMul, kAgg, scD, List.all_cons, List.all_nil]
    refine CallX.mk q6 rfl ?_
    simp only [f1, f2, wr2, wr3, wr4, wr5, wr6, wr7, tn1, tn2, tn3, tn4, tn5, tn6, bols, List.length_map, hc, bne_self_eq_false, word, nums, nats, zv, nv, bv, sv, beq_self_eq_true, VL, VB, BEq.rfl, V1, V2, V3, V4, V5, V6, V7, V8, V9, V10, V11, V12, V13, VE, Nat.reduceBEq, Nat.reduceAdd, Nat.reduceSub, Nat.reduceMul, Nat.reduceLeDiff, Nat.reduceLT, Nat.reduceEqDiff, Int.reduceBEq, Int.reduceBNe, Int.reduceLT, Int.reduceLE, Int.reduceAdd, Int.reduceSub, Int.reduceMul, kAgg, scD, List.all_cons, List.all_nil]
    refine ⟨7, Enter.mk [] [] [] ?_, by omega, by decide⟩
    simp only [plcs, modeI, wr2, wr3, wr4, wr5, wr6, wr7, tn1, tn2, tn3, tn4, tn5, tn6, bols, List.length_map, hc, bne_self_eq_false, word, nums, nats, zv, nv, bv, sv, beq_self_eq_true, VL, VB, BEq.rfl, V1, V2, V3, V4, V5, V6, V7, V8, V9, V10, V11, V12, V13, VE, Nat.reduceBEq, Nat.reduceAdd, Nat.reduceSub, Nat.reduceMul, Nat.reduceLeDiff, Nat.reduceLT, Nat.reduceEqDiff, Int.reduceBEq, Int.reduceBNe, Int.reduceLT, Int.reduceLE, Int.reduceAdd, Int.reduceSub, Int.reduceMul, kAgg, scD, List.all_cons, List.all_nil]
  | 7, _, _ =>
    clear q1 q2 q3 q4 q5 q6
    have w1 : IntKind.i64.wrap ((k : Int) - 1) = ((k - 1 : Nat) : Int) := by rw [wrap_in (by omega) (by omega)]; omega
    have mx := max_two (n := k) (by omega)
    have c1 : ((s1 : Int) != 0) = false := by rw [t1]; rfl
    have c2 : ((s2 : Int) != ((k - 1 : Nat) : Int)) = false := by rw [t2]; simp
    have c3 : ((s3 : Int) != ((k - 2 : Nat) : Int)) = false := by rw [t3]; simp
    have ck : (((heavyN hv k : Nat) : Int) == 0) = !hv.any id := by
      rw [← hn, int_beq]
      have h0 := heavyN_zero hv
      cases ha : hv.any id with
      | false => exact decide_eq_true (by have := h0.2 ha; omega)
      | true =>
        have : heavyN hv hv.length ≠ 0 := fun h => by rw [h0.1 h] at ha; cases ha
        exact decide_eq_false (by omega)
    have hcase : (k ≤ 2 ∧ s4 = s3) ∨ (3 ≤ k ∧ hv.getD (k - 2) false = true ∧ s4 = s3) ∨ (3 ≤ k ∧ hv.getD (k - 2) false = false ∧ s4 ≠ s3 ∧ s4 = k - 3) := by
      by_cases h2 : k ≤ 2
      · left; rw [t4, if_pos (.inl h2)]; exact ⟨h2, t3.symm⟩
      · cases hb : hv.getD (k - 2) false with
        | true => right; left; rw [t4, if_pos (.inr hb)]; exact ⟨by omega, rfl, t3.symm⟩
        | false =>
          right; right
          rw [if_neg (by rw [hb]; simp; omega)] at t4
          exact ⟨by omega, rfl, by omega, t4⟩
    rcases hcase with ⟨g1, g2⟩ | ⟨g1, g2, g3⟩ | ⟨g1, g2, g3, g4⟩
    · have d1 : decide ((2 : Int) < (k : Int)) = false := decide_eq_false (by omega)
      have g2 := g2.symm
      subst g2
      simp only [plcs, modeI, c1, c2, c3, w1, mx, d1, bne_self_eq_false, wr2, wr3, wr4, wr5, wr6, wr7, tn1, tn2, tn3, tn4, tn5, tn6, bols, List.length_map, hc, bne_self_eq_false, word, nums, nats, zv, nv, bv, sv, beq_self_eq_true, VL, VB, BEq.rfl, V1, V2, V3, V4, V5, V6, V7, V8, V9, V10, V11, V12, V13, VE, Nat.reduceBEq, Nat.reduceAdd, Nat.reduceSub, Nat.reduceMul, Nat.reduceLeDiff, Nat.reduceLT, Nat.reduceEqDiff, Int.reduceBEq, Int.reduceBNe, Int.reduceLT, Int.reduceLE, Int.reduceAdd, Int.reduceSub, Int.reduceMul, kAgg, scD, List.all_cons, List.all_nil]
      rw [ck]
      cases ha : hv.any id with
      | false =>
        have c5 : ((s5 : Int) == 0) = true := by rw [t5, firstH_none ha]; rfl
        have c6 : ((s6 : Int) == ((k - 1 : Nat) : Int)) = true := by rw [t6, lastH_none ha, hn]; simp
        simp only [c5, c6, w1, wr2, wr3, wr4, wr5, wr6, wr7, tn1, tn2, tn3, tn4, tn5, tn6, bols, List.length_map, hc, bne_self_eq_false, word, nums, nats, zv, nv, bv, sv, beq_self_eq_true, VL, VB, BEq.rfl, V1, V2, V3, V4, V5, V6, V7, V8, V9, V10, V11, V12, V13, VE, Nat.reduceBEq, Nat.reduceAdd, Nat.reduceSub, Nat.reduceMul, Nat.reduceLeDiff, Nat.reduceLT, Nat.reduceEqDiff, Int.reduceBEq, Int.reduceBNe, Int.reduceLT, Int.reduceLE, Int.reduceAdd, Int.reduceSub, Int.reduceMul, kAgg, scD, List.all_cons, List.all_nil]
        refine CallX.mk works_ok rfl ?_
        simp only [wr2, wr3, wr4, wr5, wr6, wr7, tn1, tn2, tn3, tn4, tn5, tn6, bols, List.length_map, hc, bne_self_eq_false, word, nums, nats, zv, nv, bv, sv, beq_self_eq_true, VL, VB, BEq.rfl, V1, V2, V3, V4, V5, V6, V7, V8, V9, V10, V11, V12, V13, VE, Nat.reduceBEq, Nat.reduceAdd, Nat.reduceSub, Nat.reduceMul, Nat.reduceLeDiff, Nat.reduceLT, Nat.reduceEqDiff, Int.reduceBEq, Int.reduceBNe, Int.reduceLT, Int.reduceLE, Int.reduceAdd, Int.reduceSub, Int.reduceMul, kAgg, scD, List.all_cons, List.all_nil]
      | true =>
        obtain ⟨a1, a2⟩ := firstH_is ha
        obtain ⟨b1, b2, b3⟩ := lastH_is ha
        rw [← t5] at a1 a2
        rw [← t6] at b1 b2 b3
        simp only [wr2, wr3, wr4, wr5, wr6, wr7, tn1, tn2, tn3, tn4, tn5, tn6, bols, List.length_map, hc, bne_self_eq_false, word, nums, nats, zv, nv, bv, sv, beq_self_eq_true, VL, VB, BEq.rfl, V1, V2, V3, V4, V5, V6, V7, V8, V9, V10, V11, V12, V13, VE, Nat.reduceBEq, Nat.reduceAdd, Nat.reduceSub, Nat.reduceMul, Nat.reduceLeDiff, Nat.reduceLT, Nat.reduceEqDiff, Int.reduceBEq, Int.reduceBNe, Int.reduceLT, Int.reduceLE, Int.reduceAdd, Int.reduceSub, Int.reduceMul, kAgg, scD, List.all_cons, List.all_nil]
        refine LoopVC.mk (Y := Nat) (fun i => i ≤ k) (fun i => ⟨[(5, .c (bols hv)), (7, nv k), (10, .bp 10 0), (14, nv i)], [(10, .cells [zv 0, nv s1, nv s2, nv s3, nv s3, nv s5, nv s6])]⟩) (fun i => k - i) ⟨0, Enter.mk [] [] [] ?_, by omega⟩ ?_
        · simp only [wr2, wr3, wr4, wr5, wr6, wr7, tn1, tn2, tn3, tn4, tn5, tn6, bols, List.length_map, hc, bne_self_eq_false, word, nums, nats, zv, nv, bv, sv, beq_self_eq_true, VL, VB, BEq.rfl, V1, V2, V3, V4, V5, V6, V7, V8, V9, V10, V11, V12, V13, VE, Nat.reduceBEq, Nat.reduceAdd, Nat.reduceSub, Nat.reduceMul, Nat.reduceLeDiff, Nat.reduceLT, Nat.reduceEqDiff, Int.reduceBEq, Int.reduceBNe, Int.reduceLT, Int.reduceLE, Int.reduceAdd, Int.reduceSub, Int.reduceMul, kAgg, scD, List.all_cons, List.all_nil]
          rfl
        intro i hi
        simp only [lt_nat, wr2, wr3, wr4, wr5, wr6, wr7, tn1, tn2, tn3, tn4, tn5, tn6, bols, List.length_map, hc, bne_self_eq_false, word, nums, nats, zv, nv, bv, sv, beq_self_eq_true, VL, VB, BEq.rfl, V1, V2, V3, V4, V5, V6, V7, V8, V9, V10, V11, V12, V13, VE, Nat.reduceBEq, Nat.reduceAdd, Nat.reduceSub, Nat.reduceMul, Nat.reduceLeDiff, Nat.reduceLT, Nat.reduceEqDiff, Int.reduceBEq, Int.reduceBNe, Int.reduceLT, Int.reduceLE, Int.reduceAdd, Int.reduceSub, Int.reduceMul, kAgg, scD, List.all_cons, List.all_nil]
        refine guardB.mk (fun h => ?_) (fun h => ?_)
        · have hi' : i < k := by simpa using h
          have hi2 : i < hv.length := by omega
          have e1 : (0 : Int) ≤ (i : Int) := Int.natCast_nonneg i
          have hg := getD_bol hv i hi2
          have f5 := firstH_le (hv := hv) (i := i)
          have f6 := b3 i
          rw [← t5] at f5
          obtain ⟨b, hb⟩ : ∃ b, hv.getD i false = b := ⟨_, rfl⟩
          rw [hb] at hg f5 f6
          cases b with
          | true =>
            have f5 : decide (i < s5) = false := decide_eq_false (by have := f5 rfl; omega)
            have f6 : decide (s6 < i) = false := decide_eq_false (by have := f6 rfl; omega)
            simp only [h, e1, hi2, hg, bol_def, f5, f6, lt_nat, wrap_nat (k := i) (by omega), wr2, wr3, wr4, wr5, wr6, wr7, tn1, tn2, tn3, tn4, tn5, tn6, bols, List.length_map, hc, bne_self_eq_false, word, nums, nats, zv, nv, bv, sv, beq_self_eq_true, VL, VB, BEq.rfl, V1, V2, V3, V4, V5, V6, V7, V8, V9, V10, V11, V12, V13, VE, Nat.reduceBEq, Nat.reduceAdd, Nat.reduceSub, Nat.reduceMul, Nat.reduceLeDiff, Nat.reduceLT, Nat.reduceEqDiff, Int.reduceBEq, Int.reduceBNe, Int.reduceLT, Int.reduceLE, Int.reduceAdd, Int.reduceSub, Int.reduceMul, kAgg, scD, List.all_cons, List.all_nil]
            refine ⟨i + 1, Enter.mk [] [] [] ?_, by omega, by show k - (i + 1) < k - i; omega⟩
            simp only [wr2, wr3, wr4, wr5, wr6, wr7, tn1, tn2, tn3, tn4, tn5, tn6, bols, List.length_map, hc, bne_self_eq_false, word, nums, nats, zv, nv, bv, sv, beq_self_eq_true, VL, VB, BEq.rfl, V1, V2, V3, V4, V5, V6, V7, V8, V9, V10, V11, V12, V13, VE, Nat.reduceBEq, Nat.reduceAdd, Nat.reduceSub, Nat.reduceMul, Nat.reduceLeDiff, Nat.reduceLT, Nat.reduceEqDiff, Int.reduceBEq, Int.reduceBNe, Int.reduceLT, Int.reduceLE, Int.reduceAdd, Int.reduceSub, Int.reduceMul, kAgg, scD, List.all_cons, List.all_nil]
          | false =>
            simp only [h, e1, hi2, hg, bol_def, wrap_nat (k := i) (by omega), wr2, wr3, wr4, wr5, wr6, wr7, tn1, tn2, tn3, tn4, tn5, tn6, bols, List.length_map, hc, bne_self_eq_false, word, nums, nats, zv, nv, bv, sv, beq_self_eq_true, VL, VB, BEq.rfl, V1, V2, V3, V4, V5, V6, V7, V8, V9, V10, V11, V12, V13, VE, Nat.reduceBEq, Nat.reduceAdd, Nat.reduceSub, Nat.reduceMul, Nat.reduceLeDiff, Nat.reduceLT, Nat.reduceEqDiff, Int.reduceBEq, Int.reduceBNe, Int.reduceLT, Int.reduceLE, Int.reduceAdd, Int.reduceSub, Int.reduceMul, kAgg, scD, List.all_cons, List.all_nil]
            refine ⟨i + 1, Enter.mk [] [] [] ?_, by omega, by show k - (i + 1) < k - i; omega⟩
            simp only [wr2, wr3, wr4, wr5, wr6, wr7, tn1, tn2, tn3, tn4, tn5, tn6, bols, List.length_map, hc, bne_self_eq_false, word, nums, nats, zv, nv, bv, sv, beq_self_eq_true, VL, VB, BEq.rfl, V1, V2, V3, V4, V5, V6, V7, V8, V9, V10, V11, V12, V13, VE, Nat.reduceBEq, Nat.reduceAdd, Nat.reduceSub, Nat.reduceMul, Nat.reduceLeDiff, Nat.reduceLT, Nat.reduceEqDiff, Int.reduceBEq, Int.reduceBNe, Int.reduceLT, Int.reduceLE, Int.reduceAdd, Int.reduceSub, Int.reduceMul, kAgg, scD, List.all_cons, List.all_nil]
        · have e5 : (0 : Int) ≤ (s5 : Int) := Int.natCast_nonneg s5
          have e6 : (0 : Int) ≤ (s6 : Int) := Int.natCast_nonneg s6
          simp only [h, e5, e6, a1, b1, getD_bol hv s5 a1, getD_bol hv s6 b1, a2, b2, bol_def, wr2, wr3, wr4, wr5, wr6, wr7, tn1, tn2, tn3, tn4, tn5, tn6, bols, List.length_map, hc, bne_self_eq_false, word, nums, nats, zv, nv, bv, sv, beq_self_eq_true, VL, VB, BEq.rfl, V1, V2, V3, V4, V5, V6, V7, V8, V9, V10, V11, V12, V13, VE, Nat.reduceBEq, Nat.reduceAdd, Nat.reduceSub, Nat.reduceMul, Nat.reduceLeDiff, Nat.reduceLT, Nat.reduceEqDiff, Int.reduceBEq, Int.reduceBNe, Int.reduceLT, Int.reduceLE, Int.reduceAdd, Int.reduceSub, Int.reduceMul, kAgg, scD, List.all_cons, List.all_nil]
          refine CallX.mk works_ok rfl ?_
          simp only [wr2, wr3, wr4, wr5, wr6, wr7, tn1, tn2, tn3, tn4, tn5, tn6, bols, List.length_map, hc, bne_self_eq_false, word, nums, nats, zv, nv, bv, sv, beq_self_eq_true, VL, VB, BEq.rfl, V1, V2, V3, V4, V5, V6, V7, V8, V9, V10, V11, V12, V13, VE, Nat.reduceBEq, Nat.reduceAdd, Nat.reduceSub, Nat.reduceMul, Nat.reduceLeDiff, Nat.reduceLT, Nat.reduceEqDiff, Int.reduceBEq, Int.reduceBNe, Int.reduceLT, Int.reduceLE, Int.reduceAdd, Int.reduceSub, Int.reduceMul, kAgg, scD, List.all_cons, List.all_nil]
    · have w2 : IntKind.i64.wrap ((k : Int) - 2) = ((k - 2 : Nat) : Int) := by rw [wrap_in (by omega) (by omega)]; omega
      have mx2 : (bif decide ((0 : Int) < ((k - 2 : Nat) : Int)) then ((k - 2 : Nat) : Int) else 0) = ((k - 2 : Nat) : Int) := by
        rw [decide_eq_true (by omega), cond_true]
      have d1 : decide ((2 : Int) < (k : Int)) = true := decide_eq_true (by omega)
      have e1 : (0 : Int) ≤ ((k - 2 : Nat) : Int) := Int.natCast_nonneg _
      have hi2 : k - 2 < hv.length := by omega
      have g3 := g3.symm
      subst g3
      simp only [plcs, modeI, c1, c2, c3, w1, w2, mx2, d1, e1, hi2, getD_bol hv (k - 2) hi2, g2, bol_def, wr2, wr3, wr4, wr5, wr6, wr7, tn1, tn2, tn3, tn4, tn5, tn6, bols, List.length_map, hc, bne_self_eq_false, word, nums, nats, zv, nv, bv, sv, beq_self_eq_true, VL, VB, BEq.rfl, V1, V2, V3, V4, V5, V6, V7, V8, V9, V10, V11, V12, V13, VE, Nat.reduceBEq, Nat.reduceAdd, Nat.reduceSub, Nat.reduceMul, Nat.reduceLeDiff, Nat.reduceLT, Nat.reduceEqDiff, Int.reduceBEq, Int.reduceBNe, Int.reduceLT, Int.reduceLE, Int.reduceAdd, Int.reduceSub, Int.reduceMul, kAgg, scD, List.all_cons, List.all_nil]
      rw [ck]
      cases ha : hv.any id with
      | false =>
        have c5 : ((s5 : Int) == 0) = true := by rw [t5, firstH_none ha]; rfl
        have c6 : ((s6 : Int) == ((k - 1 : Nat) : Int)) = true := by rw [t6, lastH_none ha, hn]; simp
        simp only [c5, c6, w1, wr2, wr3, wr4, wr5, wr6, wr7, tn1, tn2, tn3, tn4, tn5, tn6, bols, List.length_map, hc, bne_self_eq_false, word, nums, nats, zv, nv, bv, sv, beq_self_eq_true, VL, VB, BEq.rfl, V1, V2, V3, V4, V5, V6, V7, V8, V9, V10, V11, V12, V13, VE, Nat.reduceBEq, Nat.reduceAdd, Nat.reduceSub, Nat.reduceMul, Nat.reduceLeDiff, Nat.reduceLT, Nat.reduceEqDiff, Int.reduceBEq, Int.reduceBNe, Int.reduceLT, Int.reduceLE, Int.reduceAdd, Int.reduceSub, Int.reduceMul, kAgg, scD, List.all_cons, List.all_nil]
        refine CallX.mk works_ok rfl ?_
        simp only [wr2, wr3, wr4, wr5, wr6, wr7, tn1, tn2, tn3, tn4, tn5, tn6, bols, List.length_map, hc, bne_self_eq_false, word, nums, nats, zv, nv, bv, sv, beq_self_eq_true, VL, VB, BEq.rfl, V1, V2, V3, V4, V5, V6, V7, V8, V9, V10, V11, V12, V13, VE, Nat.reduceBEq, Nat.reduceAdd, Nat.reduceSub, Nat.reduceMul, Nat.reduceLeDiff, Nat.reduceLT, Nat.reduceEqDiff, Int.reduceBEq, Int.reduceBNe, Int.reduceLT, Int.reduceLE, Int.reduceAdd, Int.reduceSub, Int.reduceMul, kAgg, scD, List.all_cons, List.all_nil]
      | true =>
        obtain ⟨a1, a2⟩ := firstH_is ha
        obtain ⟨b1, b2, b3⟩ := lastH_is ha
        rw [← t5] at a1 a2
        rw [← t6] at b1 b2 b3
        simp only [wr2, wr3, wr4, wr5, wr6, wr7, tn1, tn2, tn3, tn4, tn5, tn6, bols, List.length_map, hc, bne_self_eq_false, word, nums, nats, zv, nv, bv, sv, beq_self_eq_true, VL, VB, BEq.rfl, V1, V2, V3, V4, V5, V6, V7, V8, V9, V10, V11, V12, V13, VE, Nat.reduceBEq, Nat.reduceAdd, Nat.reduceSub, Nat.reduceMul, Nat.reduceLeDiff, Nat.reduceLT, Nat.reduceEqDiff, Int.reduceBEq, Int.reduceBNe, Int.reduceLT, Int.reduceLE, Int.reduceAdd, Int.reduceSub, Int.reduceMul, kAgg, scD, List.all_cons, List.all_nil]
        refine LoopVC.mk (Y := Nat) (fun i => i ≤ k) (fun i => ⟨[(5, .c (bols hv)), (7, nv k), (10, .bp 10 0), (14, nv i)], [(10, .cells [zv 0, nv s1, nv s2, nv s3, nv s3, nv s5, nv s6])]⟩) (fun i => k - i) ⟨0, Enter.mk [] [] [] ?_, by omega⟩ ?_
        · simp only [wr2, wr3, wr4, wr5, wr6, wr7, tn1, tn2, tn3, tn4, tn5, tn6, bols, List.length_map, hc, bne_self_eq_false, word, nums, nats, zv, nv, bv, sv, beq_self_eq_true, VL, VB, BEq.rfl, V1, V2, V3, V4, V5, V6, V7, V8, V9, V10, V11, V12, V13, VE, Nat.reduceBEq, Nat.reduceAdd, Nat.reduceSub, Nat.reduceMul, Nat.reduceLeDiff, Nat.reduceLT, Nat.reduceEqDiff, Int.reduceBEq, Int.reduceBNe, Int.reduceLT, Int.reduceLE, Int.reduceAdd, Int.reduceSub, Int.reduceMul, kAgg, scD, List.all_cons, List.all_nil]
          rfl
        intro i hi
        simp only [lt_nat, wr2, wr3, wr4, wr5, wr6, wr7, tn1, tn2, tn3, tn4, tn5, tn6, bols, List.length_map, hc, bne_self_eq_false, word, nums, nats, zv, nv, bv, sv, beq_self_eq_true, VL, VB, BEq.rfl, V1, V2, V3, V4, V5, V6, V7, V8, V9, V10, V11, V12, V13, VE, Nat.reduceBEq, Nat.reduceAdd, Nat.reduceSub, Nat.reduceMul, Nat.reduceLeDiff, Nat.reduceLT, Nat.reduceEqDiff, Int.reduceBEq, Int.reduceBNe, Int.reduceLT, Int.reduceLE, Int.reduceAdd, Int.reduceSub, Int.reduceMul, kAgg, scD, List.all_cons, List.all_nil]
        refine guardB.mk (fun h => ?_) (fun h => ?_)
        · have hi' : i < k := by simpa using h
          have hi2 : i < hv.length := by omega
          have e1 : (0 : Int) ≤ (i : Int) := Int.natCast_nonneg i
          have hg := getD_bol hv i hi2
          have f5 := firstH_le (hv := hv) (i := i)
          have f6 := b3 i
          rw [← t5] at f5
          obtain ⟨b, hb⟩ : ∃ b, hv.getD i false = b := ⟨_, rfl⟩
          rw [hb] at hg f5 f6
          cases b with
          | true =>
            have f5 : decide (i < s5) = false := decide_eq_false (by have := f5 rfl; omega)
            have f6 : decide (s6 < i) = false := decide_eq_false (by have := f6 rfl; omega)
            simp only [h, e1, hi2, hg, bol_def, f5, f6, lt_nat, wrap_nat (k := i) (by omega), wr2, wr3, wr4, wr5, wr6, wr7, tn1, tn2, tn3, tn4, tn5, tn6, bols, List.length_map, hc, bne_self_eq_false, word, nums, nats, zv, nv, bv, sv, beq_self_eq_true, VL, VB, BEq.rfl, V1, V2, V3, V4, V5, V6, V7, V8, V9, V10, V11, V12, V13, VE, Nat.reduceBEq, Nat.reduceAdd, Nat.reduceSub, Nat.reduceMul, Nat.reduceLeDiff, Nat.reduceLT, Nat.reduceEqDiff, Int.reduceBEq, Int.reduceBNe, Int.reduceLT, Int.reduceLE, Int.reduceAdd, Int.reduceSub, Int.reduceMul, kAgg, scD, List.all_cons, List.all_nil]
            refine ⟨i + 1, Enter.mk [] [] [] ?_, by omega, by show k - (i + 1) < k - i; omega⟩
            simp only [wr2, wr3, wr4, wr5, wr6, wr7, tn1, tn2, tn3, tn4, tn5, tn6, bols, List.length_map, hc, bne_self_eq_false, word, nums, nats, zv, nv, bv, sv, beq_self_eq_true, VL, VB, BEq.rfl, V1, V2, V3, V4, V5, V6, V7, V8, V9, V10, V11, V12, V13, VE, Nat.reduceBEq, Nat.reduceAdd, Nat.reduceSub, Nat.reduceMul, Nat.reduceLeDiff, Nat.reduceLT, Nat.reduceEqDiff, Int.reduceBEq, Int.reduceBNe, Int.reduceLT, Int.reduceLE, Int.reduceAdd, Int.reduceSub, Int.reduceMul, kAgg, scD, List.all_cons, List.all_nil]
          | false =>
            simp only [h, e1, hi2, hg, bol_def, wrap_nat (k := i) (by omega), wr2, wr3, wr4, wr5, wr6, wr7, tn1, tn2, tn3, tn4, tn5, tn6, bols, List.length_map, hc, bne_self_eq_false, word, nums, nats, zv, nv, bv, sv, beq_self_eq_true, VL, VB, BEq.rfl, V1, V2, V3, V4, V5, V6, V7, V8, V9, V10, V11, V12, V13, VE, Nat.reduceBEq, Nat.reduceAdd, Nat.reduceSub, Nat.reduceMul, Nat.reduceLeDiff, Nat.reduceLT, Nat.reduceEqDiff, Int.reduceBEq, Int.reduceBNe, Int.reduceLT, Int.reduceLE, Int.reduceAdd, Int.reduceSub, Int.reduceMul, kAgg, scD, List.all_cons, List.all_nil]
            refine ⟨i + 1, Enter.mk [] [] [] ?_, by omega, by show k - (i + 1) < k - i; omega⟩
            simp only [wr2, wr3, wr4, wr5, wr6, wr7, tn1, tn2, tn3, tn4, tn5, tn6, bols, List.length_map, hc, bne_self_eq_false, word, nums, nats, zv, nv, bv, sv, beq_self_eq_true, VL, VB, BEq.rfl, V1, V2, V3, V4, V5, V6, V7, V8, V9, V10, V11, V12, V13, VE, Nat.reduceBEq, Nat.reduceAdd, Nat.reduceSub, Nat.reduceMul, Nat.reduceLeDiff, Nat.reduceLT, Nat.reduceEqDiff, Int.reduceBEq, Int.reduceBNe, Int.reduceLT, Int.reduceLE, Int.reduceAdd, Int.reduceSub, Int.reduceMul, kAgg, scD, List.all_cons, List.all_nil]
        · have e5 : (0 : Int) ≤ (s5 : Int) := Int.natCast_nonneg s5
          have e6 : (0 : Int) ≤ (s6 : Int) := Int.natCast_nonneg s6
          simp only [h, e5, e6, a1, b1, getD_bol hv s5 a1, getD_bol hv s6 b1, a2, b2, bol_def, wr2, wr3, wr4, wr5, wr6, wr7, tn1, tn2, tn3, tn4, tn5, tn6, bols, List.length_map, hc, bne_self_eq_false, word, nums, nats, zv, nv, bv, sv, beq_self_eq_true, VL, VB, BEq.rfl, V1, V2, V3, V4, V5, V6, V7, V8, V9, V10, V11, V12, V13, VE, Nat.reduceBEq, Nat.reduceAdd, Nat.reduceSub, Nat.reduceMul, Nat.reduceLeDiff, Nat.reduceLT, Nat.reduceEqDiff, Int.reduceBEq, Int.reduceBNe, Int.reduceLT, Int.reduceLE, Int.reduceAdd, Int.reduceSub, Int.reduceMul, kAgg, scD, List.all_cons, List.all_nil]
          refine CallX.mk works_ok rfl ?_
          simp only [wr2, wr3, wr4, wr5, wr6, wr7, tn1, tn2, tn3, tn4, tn5, tn6, bols, List.length_map, hc, bne_self_eq_false, word, nums, nats, zv, nv, bv, sv, beq_self_eq_true, VL, VB, BEq.rfl, V1, V2, V3, V4, V5, V6, V7, V8, V9, V10, V11, V12, V13, VE, Nat.reduceBEq, Nat.reduceAdd, Nat.reduceSub, Nat.reduceMul, Nat.reduceLeDiff, Nat.reduceLT, Nat.reduceEqDiff, Int.reduceBEq, Int.reduceBNe, Int.reduceLT, Int.reduceLE, Int.reduceAdd, Int.reduceSub, Int.reduceMul, kAgg, scD, List.all_cons, List.all_nil]
    · have w2 : IntKind.i64.wrap ((k : Int) - 2) = ((k - 2 : Nat) : Int) := by rw [wrap_in (by omega) (by omega)]; omega
      have w3 : IntKind.i64.wrap ((k : Int) - 3) = ((k - 3 : Nat) : Int) := by rw [wrap_in (by omega) (by omega)]; omega
      have mx2 : (bif decide ((0 : Int) < ((k - 2 : Nat) : Int)) then ((k - 2 : Nat) : Int) else 0) = ((k - 2 : Nat) : Int) := by
        rw [decide_eq_true (by omega), cond_true]
      have d1 : decide ((k : Int) < 3) = false := decide_eq_false (by omega)
      have d2 : ((s4 : Int) != (s3 : Int)) = true := by simpa using (by omega : ¬ (s4 : Int) = s3)
      have d3 : ((s4 : Int) == (s3 : Int)) = false := by simpa using (by omega : ¬ (s4 : Int) = s3)
      have d4 : ((s4 : Int) != ((k - 3 : Nat) : Int)) = false := by rw [g4]; simp
      have e1 : (0 : Int) ≤ ((k - 2 : Nat) : Int) := Int.natCast_nonneg _
      have hi2 : k - 2 < hv.length := by omega
      simp only [plcs, modeI, c1, c2, c3, w1, w2, w3, mx2, d1, d2, d3, d4, e1, hi2, getD_bol hv (k - 2) hi2, g2, bol_def, wr2, wr3, wr4, wr5, wr6, wr7, tn1, tn2, tn3, tn4, tn5, tn6, bols, List.length_map, hc, bne_self_eq_false, word, nums, nats, zv, nv, bv, sv, beq_self_eq_true, VL, VB, BEq.rfl, V1, V2, V3, V4, V5, V6, V7, V8, V9, V10, V11, V12, V13, VE, Nat.reduceBEq, Nat.reduceAdd, Nat.reduceSub, Nat.reduceMul, Nat.reduceLeDiff, Nat.reduceLT, Nat.reduceEqDiff, Int.reduceBEq, Int.reduceBNe, Int.reduceLT, Int.reduceLE, Int.reduceAdd, Int.reduceSub, Int.reduceMul, kAgg, scD, List.all_cons, List.all_nil]
      rw [ck]
      cases ha : hv.any id with
      | false =>
        have c5 : ((s5 : Int) == 0) = true := by rw [t5, firstH_none ha]; rfl
        have c6 : ((s6 : Int) == ((k - 1 : Nat) : Int)) = true := by rw [t6, lastH_none ha, hn]; simp
        simp only [c5, c6, w1, wr2, wr3, wr4, wr5, wr6, wr7, tn1, tn2, tn3, tn4, tn5, tn6, bols, List.length_map, hc, bne_self_eq_false, word, nums, nats, zv, nv, bv, sv, beq_self_eq_true, VL, VB, BEq.rfl, V1, V2, V3, V4, V5, V6, V7, V8, V9, V10, V11, V12, V13, VE, Nat.reduceBEq, Nat.reduceAdd, Nat.reduceSub, Nat.reduceMul, Nat.reduceLeDiff, Nat.reduceLT, Nat.reduceEqDiff, Int.reduceBEq, Int.reduceBNe, Int.reduceLT, Int.reduceLE, Int.reduceAdd, Int.reduceSub, Int.reduceMul, kAgg, scD, List.all_cons, List.all_nil]
        refine CallX.mk works_ok rfl ?_
        simp only [wr2, wr3, wr4, wr5, wr6, wr7, tn1, tn2, tn3, tn4, tn5, tn6, bols, List.length_map, hc, bne_self_eq_false, word, nums, nats, zv, nv, bv, sv, beq_self_eq_true, VL, VB, BEq.rfl, V1, V2, V3, V4, V5, V6, V7, V8, V9, V10, V11, V12, V13, VE, Nat.reduceBEq, Nat.reduceAdd, Nat.reduceSub, Nat.reduceMul, Nat.reduceLeDiff, Nat.reduceLT, Nat.reduceEqDiff, Int.reduceBEq, Int.reduceBNe, Int.reduceLT, Int.reduceLE, Int.reduceAdd, Int.reduceSub, Int.reduceMul, kAgg, scD, List.all_cons, List.all_nil]
      | true =>
        obtain ⟨a1, a2⟩ := firstH_is ha
        obtain ⟨b1, b2, b3⟩ := lastH_is ha
        rw [← t5] at a1 a2
        rw [← t6] at b1 b2 b3
        simp only [wr2, wr3, wr4, wr5, wr6, wr7, tn1, tn2, tn3, tn4, tn5, tn6, bols, List.length_map, hc, bne_self_eq_false, word, nums, nats, zv, nv, bv, sv, beq_self_eq_true, VL, VB, BEq.rfl, V1, V2, V3, V4, V5, V6, V7, V8, V9, V10, V11, V12, V13, VE, Nat.reduceBEq, Nat.reduceAdd, Nat.reduceSub, Nat.reduceMul, Nat.reduceLeDiff, Nat.reduceLT, Nat.reduceEqDiff, Int.reduceBEq, Int.reduceBNe, Int.reduceLT, Int.reduceLE, Int.reduceAdd, Int.reduceSub, Int.reduceMul, kAgg, scD, List.all_cons, List.all_nil]
        refine LoopVC.mk (Y := Nat) (fun i => i ≤ k) (fun i => ⟨[(5, .c (bols hv)), (7, nv k), (10, .bp 10 0), (14, nv i)], [(10, .cells [zv 0, nv s1, nv s2, nv s3, nv s4, nv s5, nv s6])]⟩) (fun i => k - i) ⟨0, Enter.mk [] [] [] ?_, by omega⟩ ?_
        · simp only [wr2, wr3, wr4, wr5, wr6, wr7, tn1, tn2, tn3, tn4, tn5, tn6, bols, List.length_map, hc, bne_self_eq_false, word, nums, nats, zv, nv, bv, sv, beq_self_eq_true, VL, VB, BEq.rfl, V1, V2, V3, V4, V5, V6, V7, V8, V9, V10, V11, V12, V13, VE, Nat.reduceBEq, Nat.reduceAdd, Nat.reduceSub, Nat.reduceMul, Nat.reduceLeDiff, Nat.reduceLT, Nat.reduceEqDiff, Int.reduceBEq, Int.reduceBNe, Int.reduceLT, Int.reduceLE, Int.reduceAdd, Int.reduceSub, Int.reduceMul, kAgg, scD, List.all_cons, List.all_nil]
          rfl
        intro i hi
        simp only [lt_nat, wr2, wr3, wr4, wr5, wr6, wr7, tn1, tn2, tn3, tn4, tn5, tn6, bols, List.length_map, hc, bne_self_eq_false, word, nums, nats, zv, nv, bv, sv, beq_self_eq_true, VL, VB, BEq.rfl, V1, V2, V3, V4, V5, V6, V7, V8, V9, V10, V11, V12, V13, VE, Nat.reduceBEq, Nat.reduceAdd, Nat.reduceSub, Nat.reduceMul, Nat.reduceLeDiff, Nat.reduceLT, Nat.reduceEqDiff, Int.reduceBEq, Int.reduceBNe, Int.reduceLT, Int.reduceLE, Int.reduceAdd, Int.reduceSub, Int.reduceMul, kAgg, scD, List.all_cons, List.all_nil]
        refine guardB.mk (fun h => ?_) (fun h => ?_)
        · have hi' : i < k := by simpa using h
          have hi2 : i < hv.length := by omega
          have e1 : (0 : Int) ≤ (i : Int) := Int.natCast_nonneg i
          have hg := getD_bol hv i hi2
          have f5 := firstH_le (hv := hv) (i := i)
          have f6 := b3 i
          rw [← t5] at f5
          obtain ⟨b, hb⟩ : ∃ b, hv.getD i false = b := ⟨_, rfl⟩
          rw [hb] at hg f5 f6
          cases b with
          | true =>
            have f5 : decide (i < s5) = false := decide_eq_false (by have := f5 rfl; omega)
            have f6 : decide (s6 < i) = false := decide_eq_false (by have := f6 rfl; omega)
            simp only [h, e1, hi2, hg, bol_def, f5, f6, lt_nat, wrap_nat (k := i) (by omega), wr2, wr3, wr4, wr5, wr6, wr7, tn1, tn2, tn3, tn4, tn5, tn6, bols, List.length_map, hc, bne_self_eq_false, word, nums, nats, zv, nv, bv, sv, beq_self_eq_true, VL, VB, BEq.rfl, V1, V2, V3, V4, V5, V6, V7, V8, V9, V10, V11, V12, V13, VE, Nat.reduceBEq, Nat.reduceAdd, Nat.reduceSub, Nat.reduceMul, Nat.reduceLeDiff, Nat.reduceLT, Nat.reduceEqDiff, Int.reduceBEq, Int.reduceBNe, Int.reduceLT, Int.reduceLE, Int.reduceAdd, Int.reduceSub, Int.reduceMul, kAgg, scD, List.all_cons, List.all_nil]
            refine ⟨i + 1, Enter.mk [] [] [] ?_, by omega, by show k - (i + 1) < k - i; omega⟩
            simp only [wr2, wr3, wr4, wr5, wr6, wr7, tn1, tn2, tn3, tn4, tn5, tn6, bols, List.length_map, hc, bne_self_eq_false, word, nums, nats, zv, nv, bv, sv, beq_self_eq_true, VL, VB, BEq.rfl, V1, V2, V3, V4, V5, V6, V7, V8, V9, V10, V11, V12, V13, VE, Nat.reduceBEq, Nat.reduceAdd, Nat.reduceSub, Nat.reduceMul, Nat.reduceLeDiff, Nat.reduceLT, Nat.reduceEqDiff, Int.reduceBEq, Int.reduceBNe, Int.reduceLT, Int.reduceLE, Int.reduceAdd, Int.reduceSub, Int.reduceMul, kAgg, scD, List.all_cons, List.all_nil]
          | false =>
            simp only [h, e1, hi2, hg, bol_def, wrap_nat (k := i) (by omega), wr2, wr3, wr4, wr5, wr6, wr7, tn1, tn2, tn3, tn4, tn5, tn6, bols, List.length_map, hc, bne_self_eq_false, word, nums, nats, zv, nv, bv, sv, beq_self_eq_true, VL, VB, BEq.rfl, V1, V2, V3, V4, V5, V6, V7, V8, V9, V10, V11, V12, V13, VE, Nat.reduceBEq, Nat.reduceAdd, Nat.reduceSub, Nat.reduceMul, Nat.reduceLeDiff, Nat.reduceLT, Nat.reduceEqDiff, Int.reduceBEq, Int.reduceBNe, Int.reduceLT, Int.reduceLE, Int.reduceAdd, Int.reduceSub, Int.reduceMul, kAgg, scD, List.all_cons, List.all_nil]
            refine ⟨i + 1, Enter.mk [] [] [] ?_, by omega, by show k - (i + 1) < k - i; omega⟩
            simp only [wr2, wr3, wr4, wr5, wr6, wr7, tn1, tn2, tn3, tn4, tn5, tn6, bols, List.length_map, hc, bne_self_eq_false, word, nums, nats, zv, nv, bv, sv, beq_self_eq_true, VL, VB, BEq.rfl, V1, V2, V3, V4, V5, V6, V7, V8, V9, V10, V11, V12, V13, VE, Nat.reduceBEq, Nat.reduceAdd, Nat.reduceSub, Nat.reduceMul, Nat.reduceLeDiff, Nat.reduceLT, Nat.reduceEqDiff, Int.reduceBEq, Int.reduceBNe, Int.reduceLT, Int.reduceLE, Int.reduceAdd, Int.reduceSub, Int.reduceMul, kAgg, scD, List.all_cons, List.all_nil]
        · have e5 : (0 : Int) ≤ (s5 : Int) := Int.natCast_nonneg s5
          have e6 : (0 : Int) ≤ (s6 : Int) := Int.natCast_nonneg s6
          simp only [h, e5, e6, a1, b1, getD_bol hv s5 a1, getD_bol hv s6 b1, a2, b2, bol_def, wr2, wr3, wr4, wr5, wr6, wr7, tn1, tn2, tn3, tn4, tn5, tn6, bols, List.length_map, hc, bne_self_eq_false, word, nums, nats, zv, nv, bv, sv, beq_self_eq_true, VL, VB, BEq.rfl, V1, V2, V3, V4, V5, V6, V7, V8, V9, V10, V11, V12, V13, VE, Nat.reduceBEq, Nat.reduceAdd, Nat.reduceSub, Nat.reduceMul, Nat.reduceLeDiff, Nat.reduceLT, Nat.reduceEqDiff, Int.reduceBEq, Int.reduceBNe, Int.reduceLT, Int.reduceLE, Int.reduceAdd, Int.reduceSub, Int.reduceMul, kAgg, scD, List.all_cons, List.all_nil]
          refine CallX.mk works_ok rfl ?_
          simp only [wr2, wr3, wr4, wr5, wr6, wr7, tn1, tn2, tn3, tn4, tn5, tn6, bols, List.length_map, hc, bne_self_eq_false, word, nums, nats, zv, nv, bv, sv, beq_self_eq_true, VL, VB, BEq.rfl, V1, V2, V3, V4, V5, V6, V7, V8, V9, V10, V11, V12, V13, VE, Nat.reduceBEq, Nat.reduceAdd, Nat.reduceSub, Nat.reduceMul, Nat.reduceLeDiff, Nat.reduceLT, Nat.reduceEqDiff, Int.reduceBEq, Int.reduceBNe, Int.reduceLT, Int.reduceLE, Int.reduceAdd, Int.reduceSub, Int.reduceMul, kAgg, scD, List.all_cons, List.all_nil]
end Go.Cp
namespace Go.Proofs.Ytmiieofmhncfbaa
open Go Go.Proofs Go.RowKit Go.ChangeShapes Go.WideShapes Go.ChangeAt Go.Vx Go.Cp

theorem syllPlaces_lifted (os : Os) (started : os.Started) (H : Type) (enc : TypeId × Value → H) :
    ReturnsInHanded {} Try.checked os 5 .any (Rows.syllPlacesSpec.pre6 enc Try.prog Try.f5 Rows.syllPlacesRow.domain false) (Rows.syllPlacesSpec.post enc Try.prog Try.f5 false true false false) := by
  refine law_lifted (m := 8) (tb := 4) os started H enc own laid (by kernel_rfl) Try.func5 rfl Try.underlying4 rfl ?_ (by kernel_rfl) (by kernel_rfl)
    (ChangeSpec.witness6 (enc := enc) (C := Try.checked) false ⟨#[], #[.agg #[.slice none 0 0, .int .i64 0], .slice none 0 0], []⟩ 8 (by kernel_rfl) (by kernel_rfl) (by kernel_rfl) (by kernel_rfl)) ?_
  · rw [Try.params5]
    intro ds hd
    match ds, hd with
    | [d1, d2], _ => exact ⟨rfl, rfl, rfl⟩
  · rw [Try.params5]
    intro dss h
    obtain ⟨x1, x2, rfl, h1, h2⟩ := typedL2 h
    obtain ⟨sc, p, rfl, hsc⟩ := typed_rule (m := 4) h1
    obtain ⟨w, rfl, hw⟩ := typed_word (m := 5) h2
    simp only [argsAV, argAV, Try.underlying22, Try.underlying24]
    exact places_law sc p w hsc hw

theorem syllPlaces_holds : Rows.SyllPlacesSaid :=
  OpenClaim.holds_of_wide 5 Try.f5 rfl rfl rfl rfl rfl rfl rfl ⟨rfl, rfl, rfl, rfl, rfl⟩ rfl rfl rfl rfl rfl (by kernel_rfl) Try.func5 (by kernel_rfl)
    (of_decide_eq_true (by kernel_rfl)) (by unfold Func.isWrapper; first | (rw [if_pos (by decide +kernel)]; kernel_rfl) | (rw [if_neg (by decide +kernel)]; exact ⟨rfl, rfl⟩))
    (fun os started H enc _ => syllPlaces_lifted os started H enc)
#print axioms syllPlaces_holds

end Go.Proofs.Ytmiieofmhncfbaa
