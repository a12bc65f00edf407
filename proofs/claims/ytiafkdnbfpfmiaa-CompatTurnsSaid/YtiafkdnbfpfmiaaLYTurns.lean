/-
  CompatTurns returns true for every input: with the languages in the opposite order all assignments and conflicts are the same; with all counts doubled the patterns have doubled counts. Conditions: none.
-/
import Derived.Test.YtiafkdnbfpfmiaaMM
set_option linter.unusedVariables false
set_option linter.unusedSimpArgs false
set_option maxHeartbeats 8000000
set_option maxRecDepth 10000
namespace Go.Cp
open Go Go.Proofs Go.Vx

theorem turns_law (x : List Nat) (hx : ∀ n ∈ x, n < 65536) : Ok Try.prog E 10 [.c (.sl (x.map u16D))] (bv true) := by
  refine ok_of_vc (L := []) (ts := [2]) envOK mixed Try.func10 rfl (by kernel_rfl) rfl (by kernel_rfl) rfl fun hl => ?_
  have hx8 : ∀ n ∈ x.take 8, n < 65536 := fun n hn => hx n (List.mem_of_mem_take hn)
  have hmade : Ok Try.prog E 32 [.c (.sl ((x.take 8).map u16D))] (.c (corrs (madeC (x.take 8)))) := Ok.val (made_ok (x.take 8) hx8)
  have hlen : (madeC (x.take 8)).length ≤ 8 := by rw [made_len, List.length_take]; omega
  have k1 := made_check (x.take 8) 256 (by omega)
  have k2 := made_check (x.take 8) 8 (by omega)
  have hb := made_bound (x.take 8)
  have hlist := made_list (x.take 8)
  have hin := made_in (l := x.take 8)
  have htl := turn_list (l := x.take 8)
  have hti := turn_in (l := x.take 8)
  have hmem := fun c => made_mem (l := x.take 8) (c := c)
  have e8 : decide ((8 : Int) < (x.length : Int)) = decide (8 < x.length) := gt_nat (a := 8)
  have t8 : (8 : Int).toNat = 8 := rfl
  generalize hLd : madeC (x.take 8) = L at hmade hlen k1 k2 hb hlist hin htl hti hmem
  have hF := Fine.of hlist
  have hF5 : Fine L 5 := ⟨fun c hc => (hmem c hc).2.1, fun c hc => (hmem c hc).1⟩
  obtain ⟨T, hT⟩ : ∃ T, L.map turn = T := ⟨_, rfl⟩
  have hTl : T.length = L.length := by rw [← hT, List.length_map]
  have hTb : ∀ c ∈ T, c.cells.length * 16 ≤ 140737488355328 := fun c hc => by
    rw [← hT] at hc
    obtain ⟨d, hd, rfl⟩ := List.mem_map.1 hc
    simp only [turn, List.length_reverse]
    exact hb d hd
  have hgs := greedy_same hlist
  have hgt : (greedyAt T T.length).1 = refAt L L.length := by
    rw [← hT, greedy_same htl, List.length_map, turn_ref hF _ (Nat.le_refl _)]
  rw [hT] at htl hti
  have q1 : checkC T 256 = 0 := by rw [checkC, if_neg (by omega), htl, if_pos rfl]
  have q2 : checkC T 8 = 0 := by rw [checkC, if_neg (by omega), htl, if_pos rfl]
  obtain ⟨f1, f2⟩ := fewest_same hlist
  obtain ⟨f3, f4⟩ := fewest_same htl
  have hlb : lblR T = lblR L := by rw [← hT, turn_lbl hF]
  rw [hlb] at f3 f4
  have hA := refAt_asg L
  have hca := canon_iff.2 hA.can
  have hal := hA.len
  have hpL : patE L (refAt L L.length) = 0 ∧ patO L (refAt L L.length) = outR L (refAt L L.length) L.length := by
    obtain ⟨p1, p2⟩ := patterns_same (labels := refAt L L.length) hin
    have e : patER L (refAt L L.length) = 0 := by rw [patER, check_same hin 256, if_neg (by simpa using k1), if_pos ⟨hal, hca⟩, if_pos hA.ok]
    exact ⟨by rw [← p1, e], by rw [← p2, patOR, e]; rfl⟩
  have hpT : patE T (refAt L L.length) = 0 ∧ patO T (refAt L L.length) = (outR L (refAt L L.length) L.length).map turn := by
    obtain ⟨p1, p2⟩ := patterns_same (labels := refAt L L.length) hti
    have ha : allowedR T (refAt L L.length) = true := by rw [← hT, turn_allowed hF (by omega)]; exact hA.ok
    have e : patER T (refAt L L.length) = 0 := by rw [patER, check_same hti 256, if_neg (by simpa using q1), if_pos ⟨by omega, hca⟩, if_pos ha]
    refine ⟨by rw [← p1, e], ?_⟩
    rw [← p2, patOR, e, if_pos rfl, hTl, ← hT, turn_out hF _ (Nat.le_refl _)]
  obtain ⟨r1, r2⟩ := hpL
  obtain ⟨r3, r4⟩ := hpT
  have hPc : ∀ c ∈ outR L (refAt L L.length) L.length, c.cells.length = 5 := fun c hc => out_len hF5 hc
  have hPk : ∀ c ∈ outR L (refAt L L.length) L.length, 0 ≤ c.count ∧ c.count ≤ 100000000000 := fun c hc => by
    rw [outR, List.mem_filterMap] at hc
    obtain ⟨k, hk, he⟩ := hc
    rw [List.mem_range] at hk
    split at he
    · injection he with he
      have := rowTo'_ok (labels := refAt L L.length) (m := 5) (fun c hc => ⟨hF5.len c hc, (hmem c hc).2.2.1, by have := (hmem c hc).2.2.2; omega⟩) hk L.length (Nat.le_refl _)
      rw [← he]
      omega
    · cases he
  have hPl : (outR L (refAt L L.length) L.length).length ≤ 8 := by rw [outR_many]; have := manyC_le (refAt L L.length) L.length; omega
  generalize outR L (refAt L L.length) L.length = P at r2 r4 hPc hPk hPl
  generalize refAt L L.length = a at hgs hgt hA hca hal r1 r2 r3 r4
  generalize lblR L = b at f1 f2 f3 f4
  obtain ⟨nb, hnb⟩ : ∃ nb, manyC b b.length = nb := ⟨_, rfl⟩
  rw [hnb] at f2 f4
  simp only [Try.f10, bv, nv, e8, t8, k1, k2, q1, q2, hgs, hgt, f1, f2, f3, f4, r1, r2, r3, r4, ← List.map_take, num_beq, beq_self_eq_true, bne_self_eq_false, List.all_cons, List.all_nil, Bool.cond_self, scD, valA, if_true, VL, VB, BEq.rfl, V1, V2, V3, V4, V5, V6, V7, V8, V9, V10, VE, Nat.reduceBEq, Nat.reduceAdd, Nat.reduceSub, Nat.reduceMul, Nat.reduceLeDiff, Nat.reduceLT, Nat.reduceEqDiff, Int.reduceBEq, Int.reduceBNe, Int.reduceLT, Int.reduceLE, Int.reduceAdd, Int.reduceSub, Int.reduceMul]
  refine guardB.mk (fun h => ?_) (fun h => ?_) <;> simp only [bv, nv, e8, t8, k1, k2, q1, q2, hgs, hgt, f1, f2, f3, f4, r1, r2, r3, r4, ← List.map_take, num_beq, beq_self_eq_true, bne_self_eq_false, List.all_cons, List.all_nil, Bool.cond_self, scD, valA, if_true, VL, VB, BEq.rfl, V1, V2, V3, V4, V5, V6, V7, V8, V9, V10, VE, Nat.reduceBEq, Nat.reduceAdd, Nat.reduceSub, Nat.reduceMul, Nat.reduceLeDiff, Nat.reduceLT, Nat.reduceEqDiff, Int.reduceBEq, Int.reduceBNe, Int.reduceLT, Int.reduceLE, Int.reduceAdd, Int.reduceSub, Int.reduceMul]
  · refine ⟨⟨⟨by omega, by omega, by simp at h; omega⟩, fun y hy => by obtain ⟨n, _, rfl⟩ := List.mem_map.1 hy; rfl⟩, ?_⟩
    refine CallX.mk hmade rfl ?_
    simp only [bv, nv, e8, t8, k1, k2, q1, q2, hgs, hgt, f1, f2, f3, f4, r1, r2, r3, r4, ← List.map_take, num_beq, beq_self_eq_true, bne_self_eq_false, List.all_cons, List.all_nil, Bool.cond_self, scD, valA, if_true, VL, VB, BEq.rfl, V1, V2, V3, V4, V5, V6, V7, V8, V9, V10, VE, Nat.reduceBEq, Nat.reduceAdd, Nat.reduceSub, Nat.reduceMul, Nat.reduceLeDiff, Nat.reduceLT, Nat.reduceEqDiff, Int.reduceBEq, Int.reduceBNe, Int.reduceLT, Int.reduceLE, Int.reduceAdd, Int.reduceSub, Int.reduceMul]
    refine LoopVC.cut (Y := Nat) (Z := Unit) 0 (fun i => i ≤ L.length) (fun i => ⟨[(3, .c (corrs L)), (4, .osl 1000 0), (5, .c (.sc (.int .i64 i)))], [(1000, .arr 52 0 (((L.take i).map turn).map Corr.enc))]⟩) (fun i => L.length - i)
      (fun _ => True) (fun _ => ⟨[(3, .c (corrs L)), (4, .osl 1000 0)], [(1000, .arr 52 0 (T.map Corr.enc))]⟩) ⟨0, Enter.mk [(4, (1000, 52))] [] [] ?_, Nat.zero_le _⟩ ?_ ?_
    · simp only [List.take_zero, List.map_nil, Option.isSome_some, bv, nv, e8, t8, k1, k2, q1, q2, hgs, hgt, f1, f2, f3, f4, r1, r2, r3, r4, ← List.map_take, num_beq, beq_self_eq_true, bne_self_eq_false, List.all_cons, List.all_nil, Bool.cond_self, scD, valA, if_true, VL, VB, BEq.rfl, V1, V2, V3, V4, V5, V6, V7, V8, V9, V10, VE, Nat.reduceBEq, Nat.reduceAdd, Nat.reduceSub, Nat.reduceMul, Nat.reduceLeDiff, Nat.reduceLT, Nat.reduceEqDiff, Int.reduceBEq, Int.reduceBNe, Int.reduceLT, Int.reduceLE, Int.reduceAdd, Int.reduceSub, Int.reduceMul]
      first | done | rfl
    · intro i hi
      simp only [lt_nat, bv, nv, e8, t8, k1, k2, q1, q2, hgs, hgt, f1, f2, f3, f4, r1, r2, r3, r4, ← List.map_take, num_beq, beq_self_eq_true, bne_self_eq_false, List.all_cons, List.all_nil, Bool.cond_self, scD, valA, if_true, VL, VB, BEq.rfl, V1, V2, V3, V4, V5, V6, V7, V8, V9, V10, VE, Nat.reduceBEq, Nat.reduceAdd, Nat.reduceSub, Nat.reduceMul, Nat.reduceLeDiff, Nat.reduceLT, Nat.reduceEqDiff, Int.reduceBEq, Int.reduceBNe, Int.reduceLT, Int.reduceLE, Int.reduceAdd, Int.reduceSub, Int.reduceMul]
      refine guardB.mk (fun h1 => ?_) (fun h1 => ?_) <;> simp only [h1, bv, nv, e8, t8, k1, k2, q1, q2, hgs, hgt, f1, f2, f3, f4, r1, r2, r3, r4, ← List.map_take, num_beq, beq_self_eq_true, bne_self_eq_false, List.all_cons, List.all_nil, Bool.cond_self, scD, valA, if_true, VL, VB, BEq.rfl, V1, V2, V3, V4, V5, V6, V7, V8, V9, V10, VE, Nat.reduceBEq, Nat.reduceAdd, Nat.reduceSub, Nat.reduceMul, Nat.reduceLeDiff, Nat.reduceLT, Nat.reduceEqDiff, Int.reduceBEq, Int.reduceBNe, Int.reduceLT, Int.reduceLE, Int.reduceAdd, Int.reduceSub, Int.reduceMul]
      · have hi' : i < L.length := by simpa using h1
        have hwi := wrap_nat (k := i) (by omega)
        have ht := take_next Corr.zero hi'
        obtain ⟨c, hc⟩ : ∃ c, L.getD i Corr.zero = c := ⟨_, rfl⟩
        rw [hc] at ht
        obtain ⟨m1, m2, m3, m4⟩ := hmem c (by rw [← hc]; exact getD_mem hi')
        have hln : (L.take i).length = i := by rw [List.length_take]; omega
        have w4 : IntKind.i64.wrap ((5 : Nat) - 1 : Int) = 4 := by rw [wrap_of (by omega) (by omega)]; rfl
        have w5 : IntKind.i64.wrap (2 * c.count) = 2 * c.count := wrap_of (by omega) (by omega)
        have hrl : c.cells.reverse.length = 5 := by rw [List.length_reverse]; exact m2
        simp only [getD_corr, hi', hc, corr_def, hwi, hln, m2, w4, w5, bv, nv, e8, t8, k1, k2, q1, q2, hgs, hgt, f1, f2, f3, f4, r1, r2, r3, r4, ← List.map_take, num_beq, beq_self_eq_true, bne_self_eq_false, List.all_cons, List.all_nil, Bool.cond_self, scD, valA, if_true, VL, VB, BEq.rfl, V1, V2, V3, V4, V5, V6, V7, V8, V9, V10, VE, Nat.reduceBEq, Nat.reduceAdd, Nat.reduceSub, Nat.reduceMul, Nat.reduceLeDiff, Nat.reduceLT, Nat.reduceEqDiff, Int.reduceBEq, Int.reduceBNe, Int.reduceLT, Int.reduceLE, Int.reduceAdd, Int.reduceSub, Int.reduceMul]
        refine ⟨Int.natCast_nonneg i, ?_⟩
        refine LoopVC.cut (Y := Nat) (Z := Unit) 2 (fun j => j ≤ 5) (fun j => ⟨[(3, .c (corrs L)), (4, .osl 1000 0), (5, .c (.sc (.int .i64 i))), (6, .osl 1001 0), (7, .c (.sc (.int .i64 (4 - (j : Int)))))], [(1000, .arr 52 0 (((L.take i).map turn).map Corr.enc)), (1001, .arr 57 0 ((c.cells.reverse.take j).map Cell.enc))]⟩) (fun j => 5 - j)
          (fun _ => True) (fun _ => ⟨[(3, .c (corrs L)), (4, .osl 1000 0), (5, .c (.sc (.int .i64 i))), (6, .osl 1001 0)], [(1000, .arr 52 0 (((L.take i).map turn).map Corr.enc)), (1001, .arr 57 0 (c.cells.reverse.map Cell.enc))]⟩) ⟨0, Enter.mk [(6, (1001, 57))] [] [] ?_, Nat.zero_le _⟩ ?_ ?_
        · simp only [List.take_zero, List.map_nil, Option.isSome_some, getD_corr, hi', hc, corr_def, hwi, hln, m2, w4, w5, bv, nv, e8, t8, k1, k2, q1, q2, hgs, hgt, f1, f2, f3, f4, r1, r2, r3, r4, ← List.map_take, num_beq, beq_self_eq_true, bne_self_eq_false, List.all_cons, List.all_nil, Bool.cond_self, scD, valA, if_true, VL, VB, BEq.rfl, V1, V2, V3, V4, V5, V6, V7, V8, V9, V10, VE, Nat.reduceBEq, Nat.reduceAdd, Nat.reduceSub, Nat.reduceMul, Nat.reduceLeDiff, Nat.reduceLT, Nat.reduceEqDiff, Int.reduceBEq, Int.reduceBNe, Int.reduceLT, Int.reduceLE, Int.reduceAdd, Int.reduceSub, Int.reduceMul]
          first | done | rfl
        · intro j hj
          have g0 : decide ((0 : Int) ≤ 4 - (j : Int)) = decide (j < 5) := by congr 1; exact propext ⟨fun h => by omega, fun h => by omega⟩
          simp only [g0, getD_corr, hi', hc, corr_def, hwi, hln, m2, w4, w5, bv, nv, e8, t8, k1, k2, q1, q2, hgs, hgt, f1, f2, f3, f4, r1, r2, r3, r4, ← List.map_take, num_beq, beq_self_eq_true, bne_self_eq_false, List.all_cons, List.all_nil, Bool.cond_self, scD, valA, if_true, VL, VB, BEq.rfl, V1, V2, V3, V4, V5, V6, V7, V8, V9, V10, VE, Nat.reduceBEq, Nat.reduceAdd, Nat.reduceSub, Nat.reduceMul, Nat.reduceLeDiff, Nat.reduceLT, Nat.reduceEqDiff, Int.reduceBEq, Int.reduceBNe, Int.reduceLT, Int.reduceLE, Int.reduceAdd, Int.reduceSub, Int.reduceMul]
          refine guardB.mk (fun h2 => ?_) (fun h2 => ?_) <;> simp only [h2, getD_corr, hi', hc, corr_def, hwi, hln, m2, w4, w5, bv, nv, e8, t8, k1, k2, q1, q2, hgs, hgt, f1, f2, f3, f4, r1, r2, r3, r4, ← List.map_take, num_beq, beq_self_eq_true, bne_self_eq_false, List.all_cons, List.all_nil, Bool.cond_self, scD, valA, if_true, VL, VB, BEq.rfl, V1, V2, V3, V4, V5, V6, V7, V8, V9, V10, VE, Nat.reduceBEq, Nat.reduceAdd, Nat.reduceSub, Nat.reduceMul, Nat.reduceLeDiff, Nat.reduceLT, Nat.reduceEqDiff, Int.reduceBEq, Int.reduceBNe, Int.reduceLT, Int.reduceLE, Int.reduceAdd, Int.reduceSub, Int.reduceMul]
          · have hj5 : j < 5 := by simpa using h2
            have htn : ((4 : Int) - (j : Int)).toNat = 4 - j := by omega
            have hjl : 4 - j < c.cells.length := by omega
            have hjl5 : 4 - j < 5 := by omega
            have hrev : c.cells.reverse.getD j Cell.zero = c.cells.getD (4 - j) Cell.zero := by rw [getD_rev (by omega), m2]
            have ht2 := take_next Cell.zero (show j < c.cells.reverse.length by omega)
            obtain ⟨u, hu⟩ : ∃ u, c.cells.getD (4 - j) Cell.zero = u := ⟨_, rfl⟩
            rw [hrev, hu] at ht2
            have hlj : (c.cells.reverse.take j).length = j := by rw [List.length_take]; omega
            have wj : IntKind.i64.wrap (4 - (j : Int) - 1) = 4 - ((j + 1 : Nat) : Int) := by
              rw [IntKind.wrap_i64]; omega
            simp only [htn, getD_enc, hjl, hjl5, hu, enc_def, hlj, wj, getD_corr, hi', hc, corr_def, hwi, hln, m2, w4, w5, bv, nv, e8, t8, k1, k2, q1, q2, hgs, hgt, f1, f2, f3, f4, r1, r2, r3, r4, ← List.map_take, num_beq, beq_self_eq_true, bne_self_eq_false, List.all_cons, List.all_nil, Bool.cond_self, scD, valA, if_true, VL, VB, BEq.rfl, V1, V2, V3, V4, V5, V6, V7, V8, V9, V10, VE, Nat.reduceBEq, Nat.reduceAdd, Nat.reduceSub, Nat.reduceMul, Nat.reduceLeDiff, Nat.reduceLT, Nat.reduceEqDiff, Int.reduceBEq, Int.reduceBNe, Int.reduceLT, Int.reduceLE, Int.reduceAdd, Int.reduceSub, Int.reduceMul]
            refine ⟨Int.natCast_nonneg i, by omega, ⟨by omega, allLen_one rfl⟩, j + 1, Enter.id ?_, by omega, by show 5 - (j + 1) < 5 - j; omega⟩
            simp only [ht2, List.map_append, enc_def, getD_corr, hi', hc, corr_def, hwi, hln, m2, w4, w5, bv, nv, e8, t8, k1, k2, q1, q2, hgs, hgt, f1, f2, f3, f4, r1, r2, r3, r4, ← List.map_take, num_beq, beq_self_eq_true, bne_self_eq_false, List.all_cons, List.all_nil, Bool.cond_self, scD, valA, if_true, VL, VB, BEq.rfl, V1, V2, V3, V4, V5, V6, V7, V8, V9, V10, VE, Nat.reduceBEq, Nat.reduceAdd, Nat.reduceSub, Nat.reduceMul, Nat.reduceLeDiff, Nat.reduceLT, Nat.reduceEqDiff, Int.reduceBEq, Int.reduceBNe, Int.reduceLT, Int.reduceLE, Int.reduceAdd, Int.reduceSub, Int.reduceMul]
          · have hje : j = 5 := by
              have : ¬ j < 5 := by simpa using h2
              omega
            subst hje
            have hte : c.cells.reverse.take 5 = c.cells.reverse := List.take_of_length_le (by omega)
            refine ⟨(), Enter.id ?_, trivial⟩
            simp only [hte, getD_corr, hi', hc, corr_def, hwi, hln, m2, w4, w5, bv, nv, e8, t8, k1, k2, q1, q2, hgs, hgt, f1, f2, f3, f4, r1, r2, r3, r4, ← List.map_take, num_beq, beq_self_eq_true, bne_self_eq_false, List.all_cons, List.all_nil, Bool.cond_self, scD, valA, if_true, VL, VB, BEq.rfl, V1, V2, V3, V4, V5, V6, V7, V8, V9, V10, VE, Nat.reduceBEq, Nat.reduceAdd, Nat.reduceSub, Nat.reduceMul, Nat.reduceLeDiff, Nat.reduceLT, Nat.reduceEqDiff, Int.reduceBEq, Int.reduceBNe, Int.reduceLT, Int.reduceLE, Int.reduceAdd, Int.reduceSub, Int.reduceMul]
        · rintro _ _
          simp only [getD_corr, hi', hc, corr_def, hwi, hln, m2, w4, w5, bv, nv, e8, t8, k1, k2, q1, q2, hgs, hgt, f1, f2, f3, f4, r1, r2, r3, r4, ← List.map_take, num_beq, beq_self_eq_true, bne_self_eq_false, List.all_cons, List.all_nil, Bool.cond_self, scD, valA, if_true, VL, VB, BEq.rfl, V1, V2, V3, V4, V5, V6, V7, V8, V9, V10, VE, Nat.reduceBEq, Nat.reduceAdd, Nat.reduceSub, Nat.reduceMul, Nat.reduceLeDiff, Nat.reduceLT, Nat.reduceEqDiff, Int.reduceBEq, Int.reduceBNe, Int.reduceLT, Int.reduceLE, Int.reduceAdd, Int.reduceSub, Int.reduceMul]
          refine ⟨Int.natCast_nonneg i, ⟨by omega, allLen_one rfl⟩, i + 1, Enter.id ?_, by omega, by show L.length - (i + 1) < L.length - i; omega⟩
          simp only [ht, List.map_append, turn, getD_corr, hi', hc, corr_def, hwi, hln, m2, w4, w5, bv, nv, e8, t8, k1, k2, q1, q2, hgs, hgt, f1, f2, f3, f4, r1, r2, r3, r4, ← List.map_take, num_beq, beq_self_eq_true, bne_self_eq_false, List.all_cons, List.all_nil, Bool.cond_self, scD, valA, if_true, VL, VB, BEq.rfl, V1, V2, V3, V4, V5, V6, V7, V8, V9, V10, VE, Nat.reduceBEq, Nat.reduceAdd, Nat.reduceSub, Nat.reduceMul, Nat.reduceLeDiff, Nat.reduceLT, Nat.reduceEqDiff, Int.reduceBEq, Int.reduceBNe, Int.reduceLT, Int.reduceLE, Int.reduceAdd, Int.reduceSub, Int.reduceMul]
      · have hie : i = L.length := by
          have : ¬ i < L.length := by simpa using h1
          omega
        have hte : L.take i = L := List.take_of_length_le (by omega)
        refine ⟨(), Enter.id ?_, trivial⟩
        simp only [hte, hT, bv, nv, e8, t8, k1, k2, q1, q2, hgs, hgt, f1, f2, f3, f4, r1, r2, r3, r4, ← List.map_take, num_beq, beq_self_eq_true, bne_self_eq_false, List.all_cons, List.all_nil, Bool.cond_self, scD, valA, if_true, VL, VB, BEq.rfl, V1, V2, V3, V4, V5, V6, V7, V8, V9, V10, VE, Nat.reduceBEq, Nat.reduceAdd, Nat.reduceSub, Nat.reduceMul, Nat.reduceLeDiff, Nat.reduceLT, Nat.reduceEqDiff, Int.reduceBEq, Int.reduceBNe, Int.reduceLT, Int.reduceLE, Int.reduceAdd, Int.reduceSub, Int.reduceMul]
    · rintro _ _
      simp only [bv, nv, e8, t8, k1, k2, q1, q2, hgs, hgt, f1, f2, f3, f4, r1, r2, r3, r4, ← List.map_take, num_beq, beq_self_eq_true, bne_self_eq_false, List.all_cons, List.all_nil, Bool.cond_self, scD, valA, if_true, VL, VB, BEq.rfl, V1, V2, V3, V4, V5, V6, V7, V8, V9, V10, VE, Nat.reduceBEq, Nat.reduceAdd, Nat.reduceSub, Nat.reduceMul, Nat.reduceLeDiff, Nat.reduceLT, Nat.reduceEqDiff, Int.reduceBEq, Int.reduceBNe, Int.reduceLT, Int.reduceLE, Int.reduceAdd, Int.reduceSub, Int.reduceMul]
      refine CallX.mk (Ok.vals (greedy_ok L hb)) rfl ?_
      simp only [bv, nv, e8, t8, k1, k2, q1, q2, hgs, hgt, f1, f2, f3, f4, r1, r2, r3, r4, ← List.map_take, num_beq, beq_self_eq_true, bne_self_eq_false, List.all_cons, List.all_nil, Bool.cond_self, scD, valA, if_true, VL, VB, BEq.rfl, V1, V2, V3, V4, V5, V6, V7, V8, V9, V10, VE, Nat.reduceBEq, Nat.reduceAdd, Nat.reduceSub, Nat.reduceMul, Nat.reduceLeDiff, Nat.reduceLT, Nat.reduceEqDiff, Int.reduceBEq, Int.reduceBNe, Int.reduceLT, Int.reduceLE, Int.reduceAdd, Int.reduceSub, Int.reduceMul]
      refine CallX.mk (Ok.vals (greedy_ok T hTb)) rfl ?_
      simp only [bv, nv, e8, t8, k1, k2, q1, q2, hgs, hgt, f1, f2, f3, f4, r1, r2, r3, r4, ← List.map_take, num_beq, beq_self_eq_true, bne_self_eq_false, List.all_cons, List.all_nil, Bool.cond_self, scD, valA, if_true, VL, VB, BEq.rfl, V1, V2, V3, V4, V5, V6, V7, V8, V9, V10, VE, Nat.reduceBEq, Nat.reduceAdd, Nat.reduceSub, Nat.reduceMul, Nat.reduceLeDiff, Nat.reduceLT, Nat.reduceEqDiff, Int.reduceBEq, Int.reduceBNe, Int.reduceLT, Int.reduceLE, Int.reduceAdd, Int.reduceSub, Int.reduceMul]
      refine CallX.mk (fewest_ok L hb) rfl ?_
      simp only [bv, nv, e8, t8, k1, k2, q1, q2, hgs, hgt, f1, f2, f3, f4, r1, r2, r3, r4, ← List.map_take, num_beq, beq_self_eq_true, bne_self_eq_false, List.all_cons, List.all_nil, Bool.cond_self, scD, valA, if_true, VL, VB, BEq.rfl, V1, V2, V3, V4, V5, V6, V7, V8, V9, V10, VE, Nat.reduceBEq, Nat.reduceAdd, Nat.reduceSub, Nat.reduceMul, Nat.reduceLeDiff, Nat.reduceLT, Nat.reduceEqDiff, Int.reduceBEq, Int.reduceBNe, Int.reduceLT, Int.reduceLE, Int.reduceAdd, Int.reduceSub, Int.reduceMul]
      refine CallX.mk (fewest_ok T hTb) rfl ?_
      simp only [bv, nv, e8, t8, k1, k2, q1, q2, hgs, hgt, f1, f2, f3, f4, r1, r2, r3, r4, ← List.map_take, num_beq, beq_self_eq_true, bne_self_eq_false, List.all_cons, List.all_nil, Bool.cond_self, scD, valA, if_true, VL, VB, BEq.rfl, V1, V2, V3, V4, V5, V6, V7, V8, V9, V10, VE, Nat.reduceBEq, Nat.reduceAdd, Nat.reduceSub, Nat.reduceMul, Nat.reduceLeDiff, Nat.reduceLT, Nat.reduceEqDiff, Int.reduceBEq, Int.reduceBNe, Int.reduceLT, Int.reduceLE, Int.reduceAdd, Int.reduceSub, Int.reduceMul]
      refine CallX.mk (Ok.vals (patterns_ok L a hb)) rfl ?_
      simp only [bv, nv, e8, t8, k1, k2, q1, q2, hgs, hgt, f1, f2, f3, f4, r1, r2, r3, r4, ← List.map_take, num_beq, beq_self_eq_true, bne_self_eq_false, List.all_cons, List.all_nil, Bool.cond_self, scD, valA, if_true, VL, VB, BEq.rfl, V1, V2, V3, V4, V5, V6, V7, V8, V9, V10, VE, Nat.reduceBEq, Nat.reduceAdd, Nat.reduceSub, Nat.reduceMul, Nat.reduceLeDiff, Nat.reduceLT, Nat.reduceEqDiff, Int.reduceBEq, Int.reduceBNe, Int.reduceLT, Int.reduceLE, Int.reduceAdd, Int.reduceSub, Int.reduceMul]
      refine CallX.mk (Ok.vals (patterns_ok T a hTb)) rfl ?_
      simp only [bv, nv, e8, t8, k1, k2, q1, q2, hgs, hgt, f1, f2, f3, f4, r1, r2, r3, r4, ← List.map_take, num_beq, beq_self_eq_true, bne_self_eq_false, List.all_cons, List.all_nil, Bool.cond_self, scD, valA, if_true, VL, VB, BEq.rfl, V1, V2, V3, V4, V5, V6, V7, V8, V9, V10, VE, Nat.reduceBEq, Nat.reduceAdd, Nat.reduceSub, Nat.reduceMul, Nat.reduceLeDiff, Nat.reduceLT, Nat.reduceEqDiff, Int.reduceBEq, Int.reduceBNe, Int.reduceLT, Int.reduceLE, Int.reduceAdd, Int.reduceSub, Int.reduceMul]
      refine CallX.mk (equal_ok a a) rfl ?_
      simp only [bv, nv, e8, t8, k1, k2, q1, q2, hgs, hgt, f1, f2, f3, f4, r1, r2, r3, r4, ← List.map_take, num_beq, beq_self_eq_true, bne_self_eq_false, List.all_cons, List.all_nil, Bool.cond_self, scD, valA, if_true, VL, VB, BEq.rfl, V1, V2, V3, V4, V5, V6, V7, V8, V9, V10, VE, Nat.reduceBEq, Nat.reduceAdd, Nat.reduceSub, Nat.reduceMul, Nat.reduceLeDiff, Nat.reduceLT, Nat.reduceEqDiff, Int.reduceBEq, Int.reduceBNe, Int.reduceLT, Int.reduceLE, Int.reduceAdd, Int.reduceSub, Int.reduceMul]
      refine CallX.mk (equal_ok b b) rfl ?_
      simp only [bv, nv, e8, t8, k1, k2, q1, q2, hgs, hgt, f1, f2, f3, f4, r1, r2, r3, r4, ← List.map_take, num_beq, beq_self_eq_true, bne_self_eq_false, List.all_cons, List.all_nil, Bool.cond_self, scD, valA, if_true, VL, VB, BEq.rfl, V1, V2, V3, V4, V5, V6, V7, V8, V9, V10, VE, Nat.reduceBEq, Nat.reduceAdd, Nat.reduceSub, Nat.reduceMul, Nat.reduceLeDiff, Nat.reduceLT, Nat.reduceEqDiff, Int.reduceBEq, Int.reduceBNe, Int.reduceLT, Int.reduceLE, Int.reduceAdd, Int.reduceSub, Int.reduceMul]
      refine LoopVC.cut (Y := Nat) (Z := Unit) 4 (fun i => i ≤ P.length) (fun i => ⟨[(18, .c (corrs P)), (20, .c (corrs (P.map turn))), (22, .c (.sc (.int .i64 i)))], []⟩) (fun i => P.length - i)
        (fun _ => True) (fun _ => ⟨[], []⟩) ⟨0, Enter.id ?_, Nat.zero_le _⟩ ?_ ?_
      · simp only [bv, nv, e8, t8, k1, k2, q1, q2, hgs, hgt, f1, f2, f3, f4, r1, r2, r3, r4, ← List.map_take, num_beq, beq_self_eq_true, bne_self_eq_false, List.all_cons, List.all_nil, Bool.cond_self, scD, valA, if_true, VL, VB, BEq.rfl, V1, V2, V3, V4, V5, V6, V7, V8, V9, V10, VE, Nat.reduceBEq, Nat.reduceAdd, Nat.reduceSub, Nat.reduceMul, Nat.reduceLeDiff, Nat.reduceLT, Nat.reduceEqDiff, Int.reduceBEq, Int.reduceBNe, Int.reduceLT, Int.reduceLE, Int.reduceAdd, Int.reduceSub, Int.reduceMul]
        first | done | rfl
      · intro i hi
        simp only [lt_nat, bv, nv, e8, t8, k1, k2, q1, q2, hgs, hgt, f1, f2, f3, f4, r1, r2, r3, r4, ← List.map_take, num_beq, beq_self_eq_true, bne_self_eq_false, List.all_cons, List.all_nil, Bool.cond_self, scD, valA, if_true, VL, VB, BEq.rfl, V1, V2, V3, V4, V5, V6, V7, V8, V9, V10, VE, Nat.reduceBEq, Nat.reduceAdd, Nat.reduceSub, Nat.reduceMul, Nat.reduceLeDiff, Nat.reduceLT, Nat.reduceEqDiff, Int.reduceBEq, Int.reduceBNe, Int.reduceLT, Int.reduceLE, Int.reduceAdd, Int.reduceSub, Int.reduceMul]
        refine guardB.mk (fun h1 => ?_) (fun h1 => ?_) <;> simp only [h1, bv, nv, e8, t8, k1, k2, q1, q2, hgs, hgt, f1, f2, f3, f4, r1, r2, r3, r4, ← List.map_take, num_beq, beq_self_eq_true, bne_self_eq_false, List.all_cons, List.all_nil, Bool.cond_self, scD, valA, if_true, VL, VB, BEq.rfl, V1, V2, V3, V4, V5, V6, V7, V8, V9, V10, VE, Nat.reduceBEq, Nat.reduceAdd, Nat.reduceSub, Nat.reduceMul, Nat.reduceLeDiff, Nat.reduceLT, Nat.reduceEqDiff, Int.reduceBEq, Int.reduceBNe, Int.reduceLT, Int.reduceLE, Int.reduceAdd, Int.reduceSub, Int.reduceMul]
        · have hi' : i < P.length := by simpa using h1
          have hiT : i < (P.map turn).length := by rw [List.length_map]; exact hi'
          have hwi := wrap_nat (k := i) (by omega)
          obtain ⟨c, hc⟩ : ∃ c, P.getD i Corr.zero = c := ⟨_, rfl⟩
          have hcm : c ∈ P := by rw [← hc]; exact getD_mem hi'
          have hcT : (P.map turn).getD i Corr.zero = turn c := by
            simp only [List.getD, List.getElem?_map, List.getElem?_eq_getElem hi', Option.map_some, Option.getD_some, ← hc]
          have m2 := hPc c hcm
          obtain ⟨m3, m4⟩ := hPk c hcm
          have w5 : IntKind.i64.wrap (2 * c.count) = 2 * c.count := wrap_of (by omega) (by omega)
          have hrl : c.cells.reverse.length = 5 := by rw [List.length_reverse]; exact m2
          have hgT : (List.map Corr.enc (List.map turn P)).getD i [] = [.sl (c.cells.reverse.map Cell.enc), .sc (.int .i64 (2 * c.count))] := by
            rw [getD_corr _ _ hiT, hcT]; rfl
          have d55 : decide (((5 : Nat) : Int) = 5) = true := rfl
          simp only [hgT, hi', getD_corr, hc, corr_def, hwi, w5, m2, hrl, d55, bv, nv, e8, t8, k1, k2, q1, q2, hgs, hgt, f1, f2, f3, f4, r1, r2, r3, r4, ← List.map_take, num_beq, beq_self_eq_true, bne_self_eq_false, List.all_cons, List.all_nil, Bool.cond_self, scD, valA, if_true, VL, VB, BEq.rfl, V1, V2, V3, V4, V5, V6, V7, V8, V9, V10, VE, Nat.reduceBEq, Nat.reduceAdd, Nat.reduceSub, Nat.reduceMul, Nat.reduceLeDiff, Nat.reduceLT, Nat.reduceEqDiff, Int.reduceBEq, Int.reduceBNe, Int.reduceLT, Int.reduceLE, Int.reduceAdd, Int.reduceSub, Int.reduceMul]
          refine ⟨Int.natCast_nonneg i, Int.natCast_nonneg i, Int.natCast_nonneg i, Int.natCast_nonneg i, ?_⟩
          refine LoopVC.cut (Y := Nat) (Z := Unit) 6 (fun k => k ≤ 5) (fun k => ⟨[(18, .c (corrs P)), (20, .c (corrs (P.map turn))), (22, .c (.sc (.int .i64 i))), (23, .c (.sc (.int .i64 k)))], []⟩) (fun k => 5 - k)
            (fun _ => True) (fun _ => ⟨[(18, .c (corrs P)), (20, .c (corrs (P.map turn))), (22, .c (.sc (.int .i64 i)))], []⟩) ⟨0, Enter.id ?_, Nat.zero_le _⟩ ?_ ?_
          · simp only [hgT, hi', getD_corr, hc, corr_def, hwi, w5, m2, hrl, d55, bv, nv, e8, t8, k1, k2, q1, q2, hgs, hgt, f1, f2, f3, f4, r1, r2, r3, r4, ← List.map_take, num_beq, beq_self_eq_true, bne_self_eq_false, List.all_cons, List.all_nil, Bool.cond_self, scD, valA, if_true, VL, VB, BEq.rfl, V1, V2, V3, V4, V5, V6, V7, V8, V9, V10, VE, Nat.reduceBEq, Nat.reduceAdd, Nat.reduceSub, Nat.reduceMul, Nat.reduceLeDiff, Nat.reduceLT, Nat.reduceEqDiff, Int.reduceBEq, Int.reduceBNe, Int.reduceLT, Int.reduceLE, Int.reduceAdd, Int.reduceSub, Int.reduceMul]
            first | done | rfl
          · intro k hk
            have g5 : decide ((k : Int) < 5) = decide (k < 5) := lt_nat (b := 5)
            simp only [g5, hgT, hi', getD_corr, hc, corr_def, hwi, w5, m2, hrl, d55, bv, nv, e8, t8, k1, k2, q1, q2, hgs, hgt, f1, f2, f3, f4, r1, r2, r3, r4, ← List.map_take, num_beq, beq_self_eq_true, bne_self_eq_false, List.all_cons, List.all_nil, Bool.cond_self, scD, valA, if_true, VL, VB, BEq.rfl, V1, V2, V3, V4, V5, V6, V7, V8, V9, V10, VE, Nat.reduceBEq, Nat.reduceAdd, Nat.reduceSub, Nat.reduceMul, Nat.reduceLeDiff, Nat.reduceLT, Nat.reduceEqDiff, Int.reduceBEq, Int.reduceBNe, Int.reduceLT, Int.reduceLE, Int.reduceAdd, Int.reduceSub, Int.reduceMul]
            refine guardB.mk (fun h2 => ?_) (fun h2 => ?_) <;> simp only [h2, hgT, hi', getD_corr, hc, corr_def, hwi, w5, m2, hrl, d55, bv, nv, e8, t8, k1, k2, q1, q2, hgs, hgt, f1, f2, f3, f4, r1, r2, r3, r4, ← List.map_take, num_beq, beq_self_eq_true, bne_self_eq_false, List.all_cons, List.all_nil, Bool.cond_self, scD, valA, if_true, VL, VB, BEq.rfl, V1, V2, V3, V4, V5, V6, V7, V8, V9, V10, VE, Nat.reduceBEq, Nat.reduceAdd, Nat.reduceSub, Nat.reduceMul, Nat.reduceLeDiff, Nat.reduceLT, Nat.reduceEqDiff, Int.reduceBEq, Int.reduceBNe, Int.reduceLT, Int.reduceLE, Int.reduceAdd, Int.reduceSub, Int.reduceMul]
            · have hk5 : k < 5 := by simp at h2; omega
              have hwk := wrap_nat (k := k) (by omega)
              have wk : IntKind.i64.wrap (4 - (k : Int)) = 4 - (k : Int) := by rw [IntKind.wrap_i64]; omega
              have htn : ((4 : Int) - (k : Int)).toNat = 4 - k := by omega
              have e1 : k < c.cells.length := by omega
              have e2 : 4 - k < c.cells.reverse.length := by omega
              have e3 : k < 5 := hk5
              have e4 : 4 - k < 5 := by omega
              obtain ⟨u, hu⟩ : ∃ u, c.cells.getD k Cell.zero = u := ⟨_, rfl⟩
              have hv : c.cells.reverse.getD (4 - k) Cell.zero = u := by rw [getD_rev (show 4 - k < c.cells.length by omega), show c.cells.length - 1 - (4 - k) = k by omega, hu]
              simp only [hwk, wk, htn, getD_enc, e1, e2, e3, e4, hu, hv, enc_def, hgT, hi', getD_corr, hc, corr_def, hwi, w5, m2, hrl, d55, bv, nv, e8, t8, k1, k2, q1, q2, hgs, hgt, f1, f2, f3, f4, r1, r2, r3, r4, ← List.map_take, num_beq, beq_self_eq_true, bne_self_eq_false, List.all_cons, List.all_nil, Bool.cond_self, scD, valA, if_true, VL, VB, BEq.rfl, V1, V2, V3, V4, V5, V6, V7, V8, V9, V10, VE, Nat.reduceBEq, Nat.reduceAdd, Nat.reduceSub, Nat.reduceMul, Nat.reduceLeDiff, Nat.reduceLT, Nat.reduceEqDiff, Int.reduceBEq, Int.reduceBNe, Int.reduceLT, Int.reduceLE, Int.reduceAdd, Int.reduceSub, Int.reduceMul]
              refine ⟨Int.natCast_nonneg i, Int.natCast_nonneg k, Int.natCast_nonneg i, by omega, k + 1, Enter.id ?_, by omega, by show 5 - (k + 1) < 5 - k; omega⟩
              simp only [hgT, hi', getD_corr, hc, corr_def, hwi, w5, m2, hrl, d55, bv, nv, e8, t8, k1, k2, q1, q2, hgs, hgt, f1, f2, f3, f4, r1, r2, r3, r4, ← List.map_take, num_beq, beq_self_eq_true, bne_self_eq_false, List.all_cons, List.all_nil, Bool.cond_self, scD, valA, if_true, VL, VB, BEq.rfl, V1, V2, V3, V4, V5, V6, V7, V8, V9, V10, VE, Nat.reduceBEq, Nat.reduceAdd, Nat.reduceSub, Nat.reduceMul, Nat.reduceLeDiff, Nat.reduceLT, Nat.reduceEqDiff, Int.reduceBEq, Int.reduceBNe, Int.reduceLT, Int.reduceLE, Int.reduceAdd, Int.reduceSub, Int.reduceMul]
            · refine ⟨(), Enter.id ?_, trivial⟩
              simp only [hgT, hi', getD_corr, hc, corr_def, hwi, w5, m2, hrl, d55, bv, nv, e8, t8, k1, k2, q1, q2, hgs, hgt, f1, f2, f3, f4, r1, r2, r3, r4, ← List.map_take, num_beq, beq_self_eq_true, bne_self_eq_false, List.all_cons, List.all_nil, Bool.cond_self, scD, valA, if_true, VL, VB, BEq.rfl, V1, V2, V3, V4, V5, V6, V7, V8, V9, V10, VE, Nat.reduceBEq, Nat.reduceAdd, Nat.reduceSub, Nat.reduceMul, Nat.reduceLeDiff, Nat.reduceLT, Nat.reduceEqDiff, Int.reduceBEq, Int.reduceBNe, Int.reduceLT, Int.reduceLE, Int.reduceAdd, Int.reduceSub, Int.reduceMul]
          · rintro _ _
            simp only [hgT, hi', getD_corr, hc, corr_def, hwi, w5, m2, hrl, d55, bv, nv, e8, t8, k1, k2, q1, q2, hgs, hgt, f1, f2, f3, f4, r1, r2, r3, r4, ← List.map_take, num_beq, beq_self_eq_true, bne_self_eq_false, List.all_cons, List.all_nil, Bool.cond_self, scD, valA, if_true, VL, VB, BEq.rfl, V1, V2, V3, V4, V5, V6, V7, V8, V9, V10, VE, Nat.reduceBEq, Nat.reduceAdd, Nat.reduceSub, Nat.reduceMul, Nat.reduceLeDiff, Nat.reduceLT, Nat.reduceEqDiff, Int.reduceBEq, Int.reduceBNe, Int.reduceLT, Int.reduceLE, Int.reduceAdd, Int.reduceSub, Int.reduceMul]
            refine ⟨i + 1, Enter.id ?_, by omega, by show P.length - (i + 1) < P.length - i; omega⟩
            simp only [hgT, hi', getD_corr, hc, corr_def, hwi, w5, m2, hrl, d55, bv, nv, e8, t8, k1, k2, q1, q2, hgs, hgt, f1, f2, f3, f4, r1, r2, r3, r4, ← List.map_take, num_beq, beq_self_eq_true, bne_self_eq_false, List.all_cons, List.all_nil, Bool.cond_self, scD, valA, if_true, VL, VB, BEq.rfl, V1, V2, V3, V4, V5, V6, V7, V8, V9, V10, VE, Nat.reduceBEq, Nat.reduceAdd, Nat.reduceSub, Nat.reduceMul, Nat.reduceLeDiff, Nat.reduceLT, Nat.reduceEqDiff, Int.reduceBEq, Int.reduceBNe, Int.reduceLT, Int.reduceLE, Int.reduceAdd, Int.reduceSub, Int.reduceMul]
        · refine ⟨(), Enter.id ?_, trivial⟩
          simp only [bv, nv, e8, t8, k1, k2, q1, q2, hgs, hgt, f1, f2, f3, f4, r1, r2, r3, r4, ← List.map_take, num_beq, beq_self_eq_true, bne_self_eq_false, List.all_cons, List.all_nil, Bool.cond_self, scD, valA, if_true, VL, VB, BEq.rfl, V1, V2, V3, V4, V5, V6, V7, V8, V9, V10, VE, Nat.reduceBEq, Nat.reduceAdd, Nat.reduceSub, Nat.reduceMul, Nat.reduceLeDiff, Nat.reduceLT, Nat.reduceEqDiff, Int.reduceBEq, Int.reduceBNe, Int.reduceLT, Int.reduceLE, Int.reduceAdd, Int.reduceSub, Int.reduceMul]
      · rintro _ _
        simp only [bv, nv, e8, t8, k1, k2, q1, q2, hgs, hgt, f1, f2, f3, f4, r1, r2, r3, r4, ← List.map_take, num_beq, beq_self_eq_true, bne_self_eq_false, List.all_cons, List.all_nil, Bool.cond_self, scD, valA, if_true, VL, VB, BEq.rfl, V1, V2, V3, V4, V5, V6, V7, V8, V9, V10, VE, Nat.reduceBEq, Nat.reduceAdd, Nat.reduceSub, Nat.reduceMul, Nat.reduceLeDiff, Nat.reduceLT, Nat.reduceEqDiff, Int.reduceBEq, Int.reduceBNe, Int.reduceLT, Int.reduceLE, Int.reduceAdd, Int.reduceSub, Int.reduceMul]
        refine CallX.mk works_ok rfl ?_
        simp only [bv, nv, e8, t8, k1, k2, q1, q2, hgs, hgt, f1, f2, f3, f4, r1, r2, r3, r4, ← List.map_take, num_beq, beq_self_eq_true, bne_self_eq_false, List.all_cons, List.all_nil, Bool.cond_self, scD, valA, if_true, VL, VB, BEq.rfl, V1, V2, V3, V4, V5, V6, V7, V8, V9, V10, VE, Nat.reduceBEq, Nat.reduceAdd, Nat.reduceSub, Nat.reduceMul, Nat.reduceLeDiff, Nat.reduceLT, Nat.reduceEqDiff, Int.reduceBEq, Int.reduceBNe, Int.reduceLT, Int.reduceLE, Int.reduceAdd, Int.reduceSub, Int.reduceMul]
  · have hx0 : x.take 8 = x := List.take_of_length_le (by simp at h; omega)
    rw [hx0] at hmade
    refine CallX.mk hmade rfl ?_
    simp only [bv, nv, e8, t8, k1, k2, q1, q2, hgs, hgt, f1, f2, f3, f4, r1, r2, r3, r4, ← List.map_take, num_beq, beq_self_eq_true, bne_self_eq_false, List.all_cons, List.all_nil, Bool.cond_self, scD, valA, if_true, VL, VB, BEq.rfl, V1, V2, V3, V4, V5, V6, V7, V8, V9, V10, VE, Nat.reduceBEq, Nat.reduceAdd, Nat.reduceSub, Nat.reduceMul, Nat.reduceLeDiff, Nat.reduceLT, Nat.reduceEqDiff, Int.reduceBEq, Int.reduceBNe, Int.reduceLT, Int.reduceLE, Int.reduceAdd, Int.reduceSub, Int.reduceMul]
    refine LoopVC.cut (Y := Nat) (Z := Unit) 0 (fun i => i ≤ L.length) (fun i => ⟨[(3, .c (corrs L)), (4, .osl 1000 0), (5, .c (.sc (.int .i64 i)))], [(1000, .arr 52 0 (((L.take i).map turn).map Corr.enc))]⟩) (fun i => L.length - i)
      (fun _ => True) (fun _ => ⟨[(3, .c (corrs L)), (4, .osl 1000 0)], [(1000, .arr 52 0 (T.map Corr.enc))]⟩) ⟨0, Enter.mk [(4, (1000, 52))] [] [] ?_, Nat.zero_le _⟩ ?_ ?_
    · simp only [List.take_zero, List.map_nil, Option.isSome_some, bv, nv, e8, t8, k1, k2, q1, q2, hgs, hgt, f1, f2, f3, f4, r1, r2, r3, r4, ← List.map_take, num_beq, beq_self_eq_true, bne_self_eq_false, List.all_cons, List.all_nil, Bool.cond_self, scD, valA, if_true, VL, VB, BEq.rfl, V1, V2, V3, V4, V5, V6, V7, V8, V9, V10, VE, Nat.reduceBEq, Nat.reduceAdd, Nat.reduceSub, Nat.reduceMul, Nat.reduceLeDiff, Nat.reduceLT, Nat.reduceEqDiff, Int.reduceBEq, Int.reduceBNe, Int.reduceLT, Int.reduceLE, Int.reduceAdd, Int.reduceSub, Int.reduceMul]
      first | done | rfl
    · intro i hi
      simp only [lt_nat, bv, nv, e8, t8, k1, k2, q1, q2, hgs, hgt, f1, f2, f3, f4, r1, r2, r3, r4, ← List.map_take, num_beq, beq_self_eq_true, bne_self_eq_false, List.all_cons, List.all_nil, Bool.cond_self, scD, valA, if_true, VL, VB, BEq.rfl, V1, V2, V3, V4, V5, V6, V7, V8, V9, V10, VE, Nat.reduceBEq, Nat.reduceAdd, Nat.reduceSub, Nat.reduceMul, Nat.reduceLeDiff, Nat.reduceLT, Nat.reduceEqDiff, Int.reduceBEq, Int.reduceBNe, Int.reduceLT, Int.reduceLE, Int.reduceAdd, Int.reduceSub, Int.reduceMul]
      refine guardB.mk (fun h1 => ?_) (fun h1 => ?_) <;> simp only [h1, bv, nv, e8, t8, k1, k2, q1, q2, hgs, hgt, f1, f2, f3, f4, r1, r2, r3, r4, ← List.map_take, num_beq, beq_self_eq_true, bne_self_eq_false, List.all_cons, List.all_nil, Bool.cond_self, scD, valA, if_true, VL, VB, BEq.rfl, V1, V2, V3, V4, V5, V6, V7, V8, V9, V10, VE, Nat.reduceBEq, Nat.reduceAdd, Nat.reduceSub, Nat.reduceMul, Nat.reduceLeDiff, Nat.reduceLT, Nat.reduceEqDiff, Int.reduceBEq, Int.reduceBNe, Int.reduceLT, Int.reduceLE, Int.reduceAdd, Int.reduceSub, Int.reduceMul]
      · have hi' : i < L.length := by simpa using h1
        have hwi := wrap_nat (k := i) (by omega)
        have ht := take_next Corr.zero hi'
        obtain ⟨c, hc⟩ : ∃ c, L.getD i Corr.zero = c := ⟨_, rfl⟩
        rw [hc] at ht
        obtain ⟨m1, m2, m3, m4⟩ := hmem c (by rw [← hc]; exact getD_mem hi')
        have hln : (L.take i).length = i := by rw [List.length_take]; omega
        have w4 : IntKind.i64.wrap ((5 : Nat) - 1 : Int) = 4 := by rw [wrap_of (by omega) (by omega)]; rfl
        have w5 : IntKind.i64.wrap (2 * c.count) = 2 * c.count := wrap_of (by omega) (by omega)
        have hrl : c.cells.reverse.length = 5 := by rw [List.length_reverse]; exact m2
        simp only [getD_corr, hi', hc, corr_def, hwi, hln, m2, w4, w5, bv, nv, e8, t8, k1, k2, q1, q2, hgs, hgt, f1, f2, f3, f4, r1, r2, r3, r4, ← List.map_take, num_beq, beq_self_eq_true, bne_self_eq_false, List.all_cons, List.all_nil, Bool.cond_self, scD, valA, if_true, VL, VB, BEq.rfl, V1, V2, V3, V4, V5, V6, V7, V8, V9, V10, VE, Nat.reduceBEq, Nat.reduceAdd, Nat.reduceSub, Nat.reduceMul, Nat.reduceLeDiff, Nat.reduceLT, Nat.reduceEqDiff, Int.reduceBEq, Int.reduceBNe, Int.reduceLT, Int.reduceLE, Int.reduceAdd, Int.reduceSub, Int.reduceMul]
        refine ⟨Int.natCast_nonneg i, ?_⟩
        refine LoopVC.cut (Y := Nat) (Z := Unit) 2 (fun j => j ≤ 5) (fun j => ⟨[(3, .c (corrs L)), (4, .osl 1000 0), (5, .c (.sc (.int .i64 i))), (6, .osl 1001 0), (7, .c (.sc (.int .i64 (4 - (j : Int)))))], [(1000, .arr 52 0 (((L.take i).map turn).map Corr.enc)), (1001, .arr 57 0 ((c.cells.reverse.take j).map Cell.enc))]⟩) (fun j => 5 - j)
          (fun _ => True) (fun _ => ⟨[(3, .c (corrs L)), (4, .osl 1000 0), (5, .c (.sc (.int .i64 i))), (6, .osl 1001 0)], [(1000, .arr 52 0 (((L.take i).map turn).map Corr.enc)), (1001, .arr 57 0 (c.cells.reverse.map Cell.enc))]⟩) ⟨0, Enter.mk [(6, (1001, 57))] [] [] ?_, Nat.zero_le _⟩ ?_ ?_
        · simp only [List.take_zero, List.map_nil, Option.isSome_some, getD_corr, hi', hc, corr_def, hwi, hln, m2, w4, w5, bv, nv, e8, t8, k1, k2, q1, q2, hgs, hgt, f1, f2, f3, f4, r1, r2, r3, r4, ← List.map_take, num_beq, beq_self_eq_true, bne_self_eq_false, List.all_cons, List.all_nil, Bool.cond_self, scD, valA, if_true, VL, VB, BEq.rfl, V1, V2, V3, V4, V5, V6, V7, V8, V9, V10, VE, Nat.reduceBEq, Nat.reduceAdd, Nat.reduceSub, Nat.reduceMul, Nat.reduceLeDiff, Nat.reduceLT, Nat.reduceEqDiff, Int.reduceBEq, Int.reduceBNe, Int.reduceLT, Int.reduceLE, Int.reduceAdd, Int.reduceSub, Int.reduceMul]
          first | done | rfl
        · intro j hj
          have g0 : decide ((0 : Int) ≤ 4 - (j : Int)) = decide (j < 5) := by congr 1; exact propext ⟨fun h => by omega, fun h => by omega⟩
          simp only [g0, getD_corr, hi', hc, corr_def, hwi, hln, m2, w4, w5, bv, nv, e8, t8, k1, k2, q1, q2, hgs, hgt, f1, f2, f3, f4, r1, r2, r3, r4, ← List.map_take, num_beq, beq_self_eq_true, bne_self_eq_false, List.all_cons, List.all_nil, Bool.cond_self, scD, valA, if_true, VL, VB, BEq.rfl, V1, V2, V3, V4, V5, V6, V7, V8, V9, V10, VE, Nat.reduceBEq, Nat.reduceAdd, Nat.reduceSub, Nat.reduceMul, Nat.reduceLeDiff, Nat.reduceLT, Nat.reduceEqDiff, Int.reduceBEq, Int.reduceBNe, Int.reduceLT, Int.reduceLE, Int.reduceAdd, Int.reduceSub, Int.reduceMul]
          refine guardB.mk (fun h2 => ?_) (fun h2 => ?_) <;> simp only [h2, getD_corr, hi', hc, corr_def, hwi, hln, m2, w4, w5, bv, nv, e8, t8, k1, k2, q1, q2, hgs, hgt, f1, f2, f3, f4, r1, r2, r3, r4, ← List.map_take, num_beq, beq_self_eq_true, bne_self_eq_false, List.all_cons, List.all_nil, Bool.cond_self, scD, valA, if_true, VL, VB, BEq.rfl, V1, V2, V3, V4, V5, V6, V7, V8, V9, V10, VE, Nat.reduceBEq, Nat.reduceAdd, Nat.reduceSub, Nat.reduceMul, Nat.reduceLeDiff, Nat.reduceLT, Nat.reduceEqDiff, Int.reduceBEq, Int.reduceBNe, Int.reduceLT, Int.reduceLE, Int.reduceAdd, Int.reduceSub, Int.reduceMul]
          · have hj5 : j < 5 := by simpa using h2
            have htn : ((4 : Int) - (j : Int)).toNat = 4 - j := by omega
            have hjl : 4 - j < c.cells.length := by omega
            have hjl5 : 4 - j < 5 := by omega
            have hrev : c.cells.reverse.getD j Cell.zero = c.cells.getD (4 - j) Cell.zero := by rw [getD_rev (by omega), m2]
            have ht2 := take_next Cell.zero (show j < c.cells.reverse.length by omega)
            obtain ⟨u, hu⟩ : ∃ u, c.cells.getD (4 - j) Cell.zero = u := ⟨_, rfl⟩
            rw [hrev, hu] at ht2
            have hlj : (c.cells.reverse.take j).length = j := by rw [List.length_take]; omega
            have wj : IntKind.i64.wrap (4 - (j : Int) - 1) = 4 - ((j + 1 : Nat) : Int) := by
              rw [IntKind.wrap_i64]; omega
            simp only [htn, getD_enc, hjl, hjl5, hu, enc_def, hlj, wj, getD_corr, hi', hc, corr_def, hwi, hln, m2, w4, w5, bv, nv, e8, t8, k1, k2, q1, q2, hgs, hgt, f1, f2, f3, f4, r1, r2, r3, r4, ← List.map_take, num_beq, beq_self_eq_true, bne_self_eq_false, List.all_cons, List.all_nil, Bool.cond_self, scD, valA, if_true, VL, VB, BEq.rfl, V1, V2, V3, V4, V5, V6, V7, V8, V9, V10, VE, Nat.reduceBEq, Nat.reduceAdd, Nat.reduceSub, Nat.reduceMul, Nat.reduceLeDiff, Nat.reduceLT, Nat.reduceEqDiff, Int.reduceBEq, Int.reduceBNe, Int.reduceLT, Int.reduceLE, Int.reduceAdd, Int.reduceSub, Int.reduceMul]
            refine ⟨Int.natCast_nonneg i, by omega, ⟨by omega, allLen_one rfl⟩, j + 1, Enter.id ?_, by omega, by show 5 - (j + 1) < 5 - j; omega⟩
            simp only [ht2, List.map_append, enc_def, getD_corr, hi', hc, corr_def, hwi, hln, m2, w4, w5, bv, nv, e8, t8, k1, k2, q1, q2, hgs, hgt, f1, f2, f3, f4, r1, r2, r3, r4, ← List.map_take, num_beq, beq_self_eq_true, bne_self_eq_false, List.all_cons, List.all_nil, Bool.cond_self, scD, valA, if_true, VL, VB, BEq.rfl, V1, V2, V3, V4, V5, V6, V7, V8, V9, V10, VE, Nat.reduceBEq, Nat.reduceAdd, Nat.reduceSub, Nat.reduceMul, Nat.reduceLeDiff, Nat.reduceLT, Nat.reduceEqDiff, Int.reduceBEq, Int.reduceBNe, Int.reduceLT, Int.reduceLE, Int.reduceAdd, Int.reduceSub, Int.reduceMul]
          · have hje : j = 5 := by
              have : ¬ j < 5 := by simpa using h2
              omega
            subst hje
            have hte : c.cells.reverse.take 5 = c.cells.reverse := List.take_of_length_le (by omega)
            refine ⟨(), Enter.id ?_, trivial⟩
            simp only [hte, getD_corr, hi', hc, corr_def, hwi, hln, m2, w4, w5, bv, nv, e8, t8, k1, k2, q1, q2, hgs, hgt, f1, f2, f3, f4, r1, r2, r3, r4, ← List.map_take, num_beq, beq_self_eq_true, bne_self_eq_false, List.all_cons, List.all_nil, Bool.cond_self, scD, valA, if_true, VL, VB, BEq.rfl, V1, V2, V3, V4, V5, V6, V7, V8, V9, V10, VE, Nat.reduceBEq, Nat.reduceAdd, Nat.reduceSub, Nat.reduceMul, Nat.reduceLeDiff, Nat.reduceLT, Nat.reduceEqDiff, Int.reduceBEq, Int.reduceBNe, Int.reduceLT, Int.reduceLE, Int.reduceAdd, Int.reduceSub, Int.reduceMul]
        · rintro _ _
          simp only [getD_corr, hi', hc, corr_def, hwi, hln, m2, w4, w5, bv, nv, e8, t8, k1, k2, q1, q2, hgs, hgt, f1, f2, f3, f4, r1, r2, r3, r4, ← List.map_take, num_beq, beq_self_eq_true, bne_self_eq_false, List.all_cons, List.all_nil, Bool.cond_self, scD, valA, if_true, VL, VB, BEq.rfl, V1, V2, V3, V4, V5, V6, V7, V8, V9, V10, VE, Nat.reduceBEq, Nat.reduceAdd, Nat.reduceSub, Nat.reduceMul, Nat.reduceLeDiff, Nat.reduceLT, Nat.reduceEqDiff, Int.reduceBEq, Int.reduceBNe, Int.reduceLT, Int.reduceLE, Int.reduceAdd, Int.reduceSub, Int.reduceMul]
          refine ⟨Int.natCast_nonneg i, ⟨by omega, allLen_one rfl⟩, i + 1, Enter.id ?_, by omega, by show L.length - (i + 1) < L.length - i; omega⟩
          simp only [ht, List.map_append, turn, getD_corr, hi', hc, corr_def, hwi, hln, m2, w4, w5, bv, nv, e8, t8, k1, k2, q1, q2, hgs, hgt, f1, f2, f3, f4, r1, r2, r3, r4, ← List.map_take, num_beq, beq_self_eq_true, bne_self_eq_false, List.all_cons, List.all_nil, Bool.cond_self, scD, valA, if_true, VL, VB, BEq.rfl, V1, V2, V3, V4, V5, V6, V7, V8, V9, V10, VE, Nat.reduceBEq, Nat.reduceAdd, Nat.reduceSub, Nat.reduceMul, Nat.reduceLeDiff, Nat.reduceLT, Nat.reduceEqDiff, Int.reduceBEq, Int.reduceBNe, Int.reduceLT, Int.reduceLE, Int.reduceAdd, Int.reduceSub, Int.reduceMul]
      · have hie : i = L.length := by
          have : ¬ i < L.length := by simpa using h1
          omega
        have hte : L.take i = L := List.take_of_length_le (by omega)
        refine ⟨(), Enter.id ?_, trivial⟩
        simp only [hte, hT, bv, nv, e8, t8, k1, k2, q1, q2, hgs, hgt, f1, f2, f3, f4, r1, r2, r3, r4, ← List.map_take, num_beq, beq_self_eq_true, bne_self_eq_false, List.all_cons, List.all_nil, Bool.cond_self, scD, valA, if_true, VL, VB, BEq.rfl, V1, V2, V3, V4, V5, V6, V7, V8, V9, V10, VE, Nat.reduceBEq, Nat.reduceAdd, Nat.reduceSub, Nat.reduceMul, Nat.reduceLeDiff, Nat.reduceLT, Nat.reduceEqDiff, Int.reduceBEq, Int.reduceBNe, Int.reduceLT, Int.reduceLE, Int.reduceAdd, Int.reduceSub, Int.reduceMul]
    · rintro _ _
      simp only [bv, nv, e8, t8, k1, k2, q1, q2, hgs, hgt, f1, f2, f3, f4, r1, r2, r3, r4, ← List.map_take, num_beq, beq_self_eq_true, bne_self_eq_false, List.all_cons, List.all_nil, Bool.cond_self, scD, valA, if_true, VL, VB, BEq.rfl, V1, V2, V3, V4, V5, V6, V7, V8, V9, V10, VE, Nat.reduceBEq, Nat.reduceAdd, Nat.reduceSub, Nat.reduceMul, Nat.reduceLeDiff, Nat.reduceLT, Nat.reduceEqDiff, Int.reduceBEq, Int.reduceBNe, Int.reduceLT, Int.reduceLE, Int.reduceAdd, Int.reduceSub, Int.reduceMul]
      refine CallX.mk (Ok.vals (greedy_ok L hb)) rfl ?_
      simp only [bv, nv, e8, t8, k1, k2, q1, q2, hgs, hgt, f1, f2, f3, f4, r1, r2, r3, r4, ← List.map_take, num_beq, beq_self_eq_true, bne_self_eq_false, List.all_cons, List.all_nil, Bool.cond_self, scD, valA, if_true, VL, VB, BEq.rfl, V1, V2, V3, V4, V5, V6, V7, V8, V9, V10, VE, Nat.reduceBEq, Nat.reduceAdd, Nat.reduceSub, Nat.reduceMul, Nat.reduceLeDiff, Nat.reduceLT, Nat.reduceEqDiff, Int.reduceBEq, Int.reduceBNe, Int.reduceLT, Int.reduceLE, Int.reduceAdd, Int.reduceSub, Int.reduceMul]
      refine CallX.mk (Ok.vals (greedy_ok T hTb)) rfl ?_
      simp only [bv, nv, e8, t8, k1, k2, q1, q2, hgs, hgt, f1, f2, f3, f4, r1, r2, r3, r4, ← List.map_take, num_beq, beq_self_eq_true, bne_self_eq_false, List.all_cons, List.all_nil, Bool.cond_self, scD, valA, if_true, VL, VB, BEq.rfl, V1, V2, V3, V4, V5, V6, V7, V8, V9, V10, VE, Nat.reduceBEq, Nat.reduceAdd, Nat.reduceSub, Nat.reduceMul, Nat.reduceLeDiff, Nat.reduceLT, Nat.reduceEqDiff, Int.reduceBEq, Int.reduceBNe, Int.reduceLT, Int.reduceLE, Int.reduceAdd, Int.reduceSub, Int.reduceMul]
      refine CallX.mk (fewest_ok L hb) rfl ?_
      simp only [bv, nv, e8, t8, k1, k2, q1, q2, hgs, hgt, f1, f2, f3, f4, r1, r2, r3, r4, ← List.map_take, num_beq, beq_self_eq_true, bne_self_eq_false, List.all_cons, List.all_nil, Bool.cond_self, scD, valA, if_true, VL, VB, BEq.rfl, V1, V2, V3, V4, V5, V6, V7, V8, V9, V10, VE, Nat.reduceBEq, Nat.reduceAdd, Nat.reduceSub, Nat.reduceMul, Nat.reduceLeDiff, Nat.reduceLT, Nat.reduceEqDiff, Int.reduceBEq, Int.reduceBNe, Int.reduceLT, Int.reduceLE, Int.reduceAdd, Int.reduceSub, Int.reduceMul]
      refine CallX.mk (fewest_ok T hTb) rfl ?_
      simp only [bv, nv, e8, t8, k1, k2, q1, q2, hgs, hgt, f1, f2, f3, f4, r1, r2, r3, r4, ← List.map_take, num_beq, beq_self_eq_true, bne_self_eq_false, List.all_cons, List.all_nil, Bool.cond_self, scD, valA, if_true, VL, VB, BEq.rfl, V1, V2, V3, V4, V5, V6, V7, V8, V9, V10, VE, Nat.reduceBEq, Nat.reduceAdd, Nat.reduceSub, Nat.reduceMul, Nat.reduceLeDiff, Nat.reduceLT, Nat.reduceEqDiff, Int.reduceBEq, Int.reduceBNe, Int.reduceLT, Int.reduceLE, Int.reduceAdd, Int.reduceSub, Int.reduceMul]
      refine CallX.mk (Ok.vals (patterns_ok L a hb)) rfl ?_
      simp only [bv, nv, e8, t8, k1, k2, q1, q2, hgs, hgt, f1, f2, f3, f4, r1, r2, r3, r4, ← List.map_take, num_beq, beq_self_eq_true, bne_self_eq_false, List.all_cons, List.all_nil, Bool.cond_self, scD, valA, if_true, VL, VB, BEq.rfl, V1, V2, V3, V4, V5, V6, V7, V8, V9, V10, VE, Nat.reduceBEq, Nat.reduceAdd, Nat.reduceSub, Nat.reduceMul, Nat.reduceLeDiff, Nat.reduceLT, Nat.reduceEqDiff, Int.reduceBEq, Int.reduceBNe, Int.reduceLT, Int.reduceLE, Int.reduceAdd, Int.reduceSub, Int.reduceMul]
      refine CallX.mk (Ok.vals (patterns_ok T a hTb)) rfl ?_
      simp only [bv, nv, e8, t8, k1, k2, q1, q2, hgs, hgt, f1, f2, f3, f4, r1, r2, r3, r4, ← List.map_take, num_beq, beq_self_eq_true, bne_self_eq_false, List.all_cons, List.all_nil, Bool.cond_self, scD, valA, if_true, VL, VB, BEq.rfl, V1, V2, V3, V4, V5, V6, V7, V8, V9, V10, VE, Nat.reduceBEq, Nat.reduceAdd, Nat.reduceSub, Nat.reduceMul, Nat.reduceLeDiff, Nat.reduceLT, Nat.reduceEqDiff, Int.reduceBEq, Int.reduceBNe, Int.reduceLT, Int.reduceLE, Int.reduceAdd, Int.reduceSub, Int.reduceMul]
      refine CallX.mk (equal_ok a a) rfl ?_
      simp only [bv, nv, e8, t8, k1, k2, q1, q2, hgs, hgt, f1, f2, f3, f4, r1, r2, r3, r4, ← List.map_take, num_beq, beq_self_eq_true, bne_self_eq_false, List.all_cons, List.all_nil, Bool.cond_self, scD, valA, if_true, VL, VB, BEq.rfl, V1, V2, V3, V4, V5, V6, V7, V8, V9, V10, VE, Nat.reduceBEq, Nat.reduceAdd, Nat.reduceSub, Nat.reduceMul, Nat.reduceLeDiff, Nat.reduceLT, Nat.reduceEqDiff, Int.reduceBEq, Int.reduceBNe, Int.reduceLT, Int.reduceLE, Int.reduceAdd, Int.reduceSub, Int.reduceMul]
      refine CallX.mk (equal_ok b b) rfl ?_
      simp only [bv, nv, e8, t8, k1, k2, q1, q2, hgs, hgt, f1, f2, f3, f4, r1, r2, r3, r4, ← List.map_take, num_beq, beq_self_eq_true, bne_self_eq_false, List.all_cons, List.all_nil, Bool.cond_self, scD, valA, if_true, VL, VB, BEq.rfl, V1, V2, V3, V4, V5, V6, V7, V8, V9, V10, VE, Nat.reduceBEq, Nat.reduceAdd, Nat.reduceSub, Nat.reduceMul, Nat.reduceLeDiff, Nat.reduceLT, Nat.reduceEqDiff, Int.reduceBEq, Int.reduceBNe, Int.reduceLT, Int.reduceLE, Int.reduceAdd, Int.reduceSub, Int.reduceMul]
      refine LoopVC.cut (Y := Nat) (Z := Unit) 4 (fun i => i ≤ P.length) (fun i => ⟨[(18, .c (corrs P)), (20, .c (corrs (P.map turn))), (22, .c (.sc (.int .i64 i)))], []⟩) (fun i => P.length - i)
        (fun _ => True) (fun _ => ⟨[], []⟩) ⟨0, Enter.id ?_, Nat.zero_le _⟩ ?_ ?_
      · simp only [bv, nv, e8, t8, k1, k2, q1, q2, hgs, hgt, f1, f2, f3, f4, r1, r2, r3, r4, ← List.map_take, num_beq, beq_self_eq_true, bne_self_eq_false, List.all_cons, List.all_nil, Bool.cond_self, scD, valA, if_true, VL, VB, BEq.rfl, V1, V2, V3, V4, V5, V6, V7, V8, V9, V10, VE, Nat.reduceBEq, Nat.reduceAdd, Nat.reduceSub, Nat.reduceMul, Nat.reduceLeDiff, Nat.reduceLT, Nat.reduceEqDiff, Int.reduceBEq, Int.reduceBNe, Int.reduceLT, Int.reduceLE, Int.reduceAdd, Int.reduceSub, Int.reduceMul]
        first | done | rfl
      · intro i hi
        simp only [lt_nat, bv, nv, e8, t8, k1, k2, q1, q2, hgs, hgt, f1, f2, f3, f4, r1, r2, r3, r4, ← List.map_take, num_beq, beq_self_eq_true, bne_self_eq_false, List.all_cons, List.all_nil, Bool.cond_self, scD, valA, if_true, VL, VB, BEq.rfl, V1, V2, V3, V4, V5, V6, V7, V8, V9, V10, VE, Nat.reduceBEq, Nat.reduceAdd, Nat.reduceSub, Nat.reduceMul, Nat.reduceLeDiff, Nat.reduceLT, Nat.reduceEqDiff, Int.reduceBEq, Int.reduceBNe, Int.reduceLT, Int.reduceLE, Int.reduceAdd, Int.reduceSub, Int.reduceMul]
        refine guardB.mk (fun h1 => ?_) (fun h1 => ?_) <;> simp only [h1, bv, nv, e8, t8, k1, k2, q1, q2, hgs, hgt, f1, f2, f3, f4, r1, r2, r3, r4, ← List.map_take, num_beq, beq_self_eq_true, bne_self_eq_false, List.all_cons, List.all_nil, Bool.cond_self, scD, valA, if_true, VL, VB, BEq.rfl, V1, V2, V3, V4, V5, V6, V7, V8, V9, V10, VE, Nat.reduceBEq, Nat.reduceAdd, Nat.reduceSub, Nat.reduceMul, Nat.reduceLeDiff, Nat.reduceLT, Nat.reduceEqDiff, Int.reduceBEq, Int.reduceBNe, Int.reduceLT, Int.reduceLE, Int.reduceAdd, Int.reduceSub, Int.reduceMul]
        · have hi' : i < P.length := by simpa using h1
          have hiT : i < (P.map turn).length := by rw [List.length_map]; exact hi'
          have hwi := wrap_nat (k := i) (by omega)
          obtain ⟨c, hc⟩ : ∃ c, P.getD i Corr.zero = c := ⟨_, rfl⟩
          have hcm : c ∈ P := by rw [← hc]; exact getD_mem hi'
          have hcT : (P.map turn).getD i Corr.zero = turn c := by
            simp only [List.getD, List.getElem?_map, List.getElem?_eq_getElem hi', Option.map_some, Option.getD_some, ← hc]
          have m2 := hPc c hcm
          obtain ⟨m3, m4⟩ := hPk c hcm
          have w5 : IntKind.i64.wrap (2 * c.count) = 2 * c.count := wrap_of (by omega) (by omega)
          have hrl : c.cells.reverse.length = 5 := by rw [List.length_reverse]; exact m2
          have hgT : (List.map Corr.enc (List.map turn P)).getD i [] = [.sl (c.cells.reverse.map Cell.enc), .sc (.int .i64 (2 * c.count))] := by
            rw [getD_corr _ _ hiT, hcT]; rfl
          have d55 : decide (((5 : Nat) : Int) = 5) = true := rfl
          simp only [hgT, hi', getD_corr, hc, corr_def, hwi, w5, m2, hrl, d55, bv, nv, e8, t8, k1, k2, q1, q2, hgs, hgt, f1, f2, f3, f4, r1, r2, r3, r4, ← List.map_take, num_beq, beq_self_eq_true, bne_self_eq_false, List.all_cons, List.all_nil, Bool.cond_self, scD, valA, if_true, VL, VB, BEq.rfl, V1, V2, V3, V4, V5, V6, V7, V8, V9, V10, VE, Nat.reduceBEq, Nat.reduceAdd, Nat.reduceSub, Nat.reduceMul, Nat.reduceLeDiff, Nat.reduceLT, Nat.reduceEqDiff, Int.reduceBEq, Int.reduceBNe, Int.reduceLT, Int.reduceLE, Int.reduceAdd, Int.reduceSub, Int.reduceMul]
          refine ⟨Int.natCast_nonneg i, Int.natCast_nonneg i, Int.natCast_nonneg i, Int.natCast_nonneg i, ?_⟩
          refine LoopVC.cut (Y := Nat) (Z := Unit) 6 (fun k => k ≤ 5) (fun k => ⟨[(18, .c (corrs P)), (20, .c (corrs (P.map turn))), (22, .c (.sc (.int .i64 i))), (23, .c (.sc (.int .i64 k)))], []⟩) (fun k => 5 - k)
            (fun _ => True) (fun _ => ⟨[(18, .c (corrs P)), (20, .c (corrs (P.map turn))), (22, .c (.sc (.int .i64 i)))], []⟩) ⟨0, Enter.id ?_, Nat.zero_le _⟩ ?_ ?_
          · simp only [hgT, hi', getD_corr, hc, corr_def, hwi, w5, m2, hrl, d55, bv, nv, e8, t8, k1, k2, q1, q2, hgs, hgt, f1, f2, f3, f4, r1, r2, r3, r4, ← List.map_take, num_beq, beq_self_eq_true, bne_self_eq_false, List.all_cons, List.all_nil, Bool.cond_self, scD, valA, if_true, VL, VB, BEq.rfl, V1, V2, V3, V4, V5, V6, V7, V8, V9, V10, VE, Nat.reduceBEq, Nat.reduceAdd, Nat.reduceSub, Nat.reduceMul, Nat.reduceLeDiff, Nat.reduceLT, Nat.reduceEqDiff, Int.reduceBEq, Int.reduceBNe, Int.reduceLT, Int.reduceLE, Int.reduceAdd, Int.reduceSub, Int.reduceMul]
            first | done | rfl
          · intro k hk
            have g5 : decide ((k : Int) < 5) = decide (k < 5) := lt_nat (b := 5)
            simp only [g5, hgT, hi', getD_corr, hc, corr_def, hwi, w5, m2, hrl, d55, bv, nv, e8, t8, k1, k2, q1, q2, hgs, hgt, f1, f2, f3, f4, r1, r2, r3, r4, ← List.map_take, num_beq, beq_self_eq_true, bne_self_eq_false, List.all_cons, List.all_nil, Bool.cond_self, scD, valA, if_true, VL, VB, BEq.rfl, V1, V2, V3, V4, V5, V6, V7, V8, V9, V10, VE, Nat.reduceBEq, Nat.reduceAdd, Nat.reduceSub, Nat.reduceMul, Nat.reduceLeDiff, Nat.reduceLT, Nat.reduceEqDiff, Int.reduceBEq, Int.reduceBNe, Int.reduceLT, Int.reduceLE, Int.reduceAdd, Int.reduceSub, Int.reduceMul]
            refine guardB.mk (fun h2 => ?_) (fun h2 => ?_) <;> simp only [h2, hgT, hi', getD_corr, hc, corr_def, hwi, w5, m2, hrl, d55, bv, nv, e8, t8, k1, k2, q1, q2, hgs, hgt, f1, f2, f3, f4, r1, r2, r3, r4, ← List.map_take, num_beq, beq_self_eq_true, bne_self_eq_false, List.all_cons, List.all_nil, Bool.cond_self, scD, valA, if_true, VL, VB, BEq.rfl, V1, V2, V3, V4, V5, V6, V7, V8, V9, V10, VE, Nat.reduceBEq, Nat.reduceAdd, Nat.reduceSub, Nat.reduceMul, Nat.reduceLeDiff, Nat.reduceLT, Nat.reduceEqDiff, Int.reduceBEq, Int.reduceBNe, Int.reduceLT, Int.reduceLE, Int.reduceAdd, Int.reduceSub, Int.reduceMul]
            · have hk5 : k < 5 := by simp at h2; omega
              have hwk := wrap_nat (k := k) (by omega)
              have wk : IntKind.i64.wrap (4 - (k : Int)) = 4 - (k : Int) := by rw [IntKind.wrap_i64]; omega
              have htn : ((4 : Int) - (k : Int)).toNat = 4 - k := by omega
              have e1 : k < c.cells.length := by omega
              have e2 : 4 - k < c.cells.reverse.length := by omega
              have e3 : k < 5 := hk5
              have e4 : 4 - k < 5 := by omega
              obtain ⟨u, hu⟩ : ∃ u, c.cells.getD k Cell.zero = u := ⟨_, rfl⟩
              have hv : c.cells.reverse.getD (4 - k) Cell.zero = u := by rw [getD_rev (show 4 - k < c.cells.length by omega), show c.cells.length - 1 - (4 - k) = k by omega, hu]
              simp only [hwk, wk, htn, getD_enc, e1, e2, e3, e4, hu, hv, enc_def, hgT, hi', getD_corr, hc, corr_def, hwi, w5, m2, hrl, d55, bv, nv, e8, t8, k1, k2, q1, q2, hgs, hgt, f1, f2, f3, f4, r1, r2, r3, r4, ← List.map_take, num_beq, beq_self_eq_true, bne_self_eq_false, List.all_cons, List.all_nil, Bool.cond_self, scD, valA, if_true, VL, VB, BEq.rfl, V1, V2, V3, V4, V5, V6, V7, V8, V9, V10, VE, Nat.reduceBEq, Nat.reduceAdd, Nat.reduceSub, Nat.reduceMul, Nat.reduceLeDiff, Nat.reduceLT, Nat.reduceEqDiff, Int.reduceBEq, Int.reduceBNe, Int.reduceLT, Int.reduceLE, Int.reduceAdd, Int.reduceSub, Int.reduceMul]
              refine ⟨Int.natCast_nonneg i, Int.natCast_nonneg k, Int.natCast_nonneg i, by omega, k + 1, Enter.id ?_, by omega, by show 5 - (k + 1) < 5 - k; omega⟩
              simp only [hgT, hi', getD_corr, hc, corr_def, hwi, w5, m2, hrl, d55, bv, nv, e8, t8, k1, k2, q1, q2, hgs, hgt, f1, f2, f3, f4, r1, r2, r3, r4, ← List.map_take, num_beq, beq_self_eq_true, bne_self_eq_false, List.all_cons, List.all_nil, Bool.cond_self, scD, valA, if_true, VL, VB, BEq.rfl, V1, V2, V3, V4, V5, V6, V7, V8, V9, V10, VE, Nat.reduceBEq, Nat.reduceAdd, Nat.reduceSub, Nat.reduceMul, Nat.reduceLeDiff, Nat.reduceLT, Nat.reduceEqDiff, Int.reduceBEq, Int.reduceBNe, Int.reduceLT, Int.reduceLE, Int.reduceAdd, Int.reduceSub, Int.reduceMul]
            · refine ⟨(), Enter.id ?_, trivial⟩
              simp only [hgT, hi', getD_corr, hc, corr_def, hwi, w5, m2, hrl, d55, bv, nv, e8, t8, k1, k2, q1, q2, hgs, hgt, f1, f2, f3, f4, r1, r2, r3, r4, ← List.map_take, num_beq, beq_self_eq_true, bne_self_eq_false, List.all_cons, List.all_nil, Bool.cond_self, scD, valA, if_true, VL, VB, BEq.rfl, V1, V2, V3, V4, V5, V6, V7, V8, V9, V10, VE, Nat.reduceBEq, Nat.reduceAdd, Nat.reduceSub, Nat.reduceMul, Nat.reduceLeDiff, Nat.reduceLT, Nat.reduceEqDiff, Int.reduceBEq, Int.reduceBNe, Int.reduceLT, Int.reduceLE, Int.reduceAdd, Int.reduceSub, Int.reduceMul]
          · rintro _ _
            simp only [hgT, hi', getD_corr, hc, corr_def, hwi, w5, m2, hrl, d55, bv, nv, e8, t8, k1, k2, q1, q2, hgs, hgt, f1, f2, f3, f4, r1, r2, r3, r4, ← List.map_take, num_beq, beq_self_eq_true, bne_self_eq_false, List.all_cons, List.all_nil, Bool.cond_self, scD, valA, if_true, VL, VB, BEq.rfl, V1, V2, V3, V4, V5, V6, V7, V8, V9, V10, VE, Nat.reduceBEq, Nat.reduceAdd, Nat.reduceSub, Nat.reduceMul, Nat.reduceLeDiff, Nat.reduceLT, Nat.reduceEqDiff, Int.reduceBEq, Int.reduceBNe, Int.reduceLT, Int.reduceLE, Int.reduceAdd, Int.reduceSub, Int.reduceMul]
            refine ⟨i + 1, Enter.id ?_, by omega, by show P.length - (i + 1) < P.length - i; omega⟩
            simp only [hgT, hi', getD_corr, hc, corr_def, hwi, w5, m2, hrl, d55, bv, nv, e8, t8, k1, k2, q1, q2, hgs, hgt, f1, f2, f3, f4, r1, r2, r3, r4, ← List.map_take, num_beq, beq_self_eq_true, bne_self_eq_false, List.all_cons, List.all_nil, Bool.cond_self, scD, valA, if_true, VL, VB, BEq.rfl, V1, V2, V3, V4, V5, V6, V7, V8, V9, V10, VE, Nat.reduceBEq, Nat.reduceAdd, Nat.reduceSub, Nat.reduceMul, Nat.reduceLeDiff, Nat.reduceLT, Nat.reduceEqDiff, Int.reduceBEq, Int.reduceBNe, Int.reduceLT, Int.reduceLE, Int.reduceAdd, Int.reduceSub, Int.reduceMul]
        · refine ⟨(), Enter.id ?_, trivial⟩
          simp only [bv, nv, e8, t8, k1, k2, q1, q2, hgs, hgt, f1, f2, f3, f4, r1, r2, r3, r4, ← List.map_take, num_beq, beq_self_eq_true, bne_self_eq_false, List.all_cons, List.all_nil, Bool.cond_self, scD, valA, if_true, VL, VB, BEq.rfl, V1, V2, V3, V4, V5, V6, V7, V8, V9, V10, VE, Nat.reduceBEq, Nat.reduceAdd, Nat.reduceSub, Nat.reduceMul, Nat.reduceLeDiff, Nat.reduceLT, Nat.reduceEqDiff, Int.reduceBEq, Int.reduceBNe, Int.reduceLT, Int.reduceLE, Int.reduceAdd, Int.reduceSub, Int.reduceMul]
      · rintro _ _
        simp only [bv, nv, e8, t8, k1, k2, q1, q2, hgs, hgt, f1, f2, f3, f4, r1, r2, r3, r4, ← List.map_take, num_beq, beq_self_eq_true, bne_self_eq_false, List.all_cons, List.all_nil, Bool.cond_self, scD, valA, if_true, VL, VB, BEq.rfl, V1, V2, V3, V4, V5, V6, V7, V8, V9, V10, VE, Nat.reduceBEq, Nat.reduceAdd, Nat.reduceSub, Nat.reduceMul, Nat.reduceLeDiff, Nat.reduceLT, Nat.reduceEqDiff, Int.reduceBEq, Int.reduceBNe, Int.reduceLT, Int.reduceLE, Int.reduceAdd, Int.reduceSub, Int.reduceMul]
        refine CallX.mk works_ok rfl ?_
        simp only [bv, nv, e8, t8, k1, k2, q1, q2, hgs, hgt, f1, f2, f3, f4, r1, r2, r3, r4, ← List.map_take, num_beq, beq_self_eq_true, bne_self_eq_false, List.all_cons, List.all_nil, Bool.cond_self, scD, valA, if_true, VL, VB, BEq.rfl, V1, V2, V3, V4, V5, V6, V7, V8, V9, V10, VE, Nat.reduceBEq, Nat.reduceAdd, Nat.reduceSub, Nat.reduceMul, Nat.reduceLeDiff, Nat.reduceLT, Nat.reduceEqDiff, Int.reduceBEq, Int.reduceBNe, Int.reduceLT, Int.reduceLE, Int.reduceAdd, Int.reduceSub, Int.reduceMul]

end Go.Cp
namespace Go.Proofs.Ytiafkdnbfpfmiaa
open Go Go.Proofs Go.RowKit Go.ChangeShapes Go.WideShapes Go.ChangeAt Go.Vx Go.Cp

theorem compatTurns_lifted (os : Os) (started : os.Started) (H : Type) (enc : TypeId × Value → H) :
    ReturnsInHanded {} Try.checked os 10 .any (Rows.compatTurnsSpec.pre6 enc Try.prog Try.f10 Rows.compatTurnsRow.domain false) (Rows.compatTurnsSpec.post enc Try.prog Try.f10 false true false false) := by
  refine law_lifted (m := 8) (tb := 4) os started H enc own laid (by kernel_rfl) Try.func10 rfl Try.underlying4 rfl ?_ (by kernel_rfl) (by kernel_rfl)
    (ChangeSpec.witness6 (enc := enc) (C := Try.checked) false ⟨#[], #[.slice none 0 0], []⟩ 8 (by kernel_rfl) (by kernel_rfl) (by kernel_rfl) (by kernel_rfl)) ?_
  · rw [Try.params10]
    intro ds hd
    match ds, hd with
    | [d1], _ => exact ⟨rfl, rfl, rfl⟩
  · rw [Try.params10]
    intro dss h
    match dss, h with
    | [x1], ⟨h1, _⟩ =>
      obtain ⟨x, rfl, hx⟩ := typed_u16s (m := 6) h1
      simp only [argsAV, argAV, Try.underlying50]
      exact turns_law x hx

theorem compatTurns_holds : Rows.CompatTurnsSaid :=
  OpenClaim.holds_of_wide 10 Try.f10 rfl rfl rfl rfl rfl rfl rfl ⟨rfl, rfl, rfl, rfl, rfl⟩ rfl rfl rfl rfl rfl (by kernel_rfl) Try.func10 (by kernel_rfl)
    (of_decide_eq_true (by kernel_rfl)) (by unfold Func.isWrapper; first | (rw [if_pos (by decide +kernel)]; kernel_rfl) | (rw [if_neg (by decide +kernel)]; exact ⟨rfl, rfl⟩))
    (fun os started H enc _ => compatTurns_lifted os started H enc)
#print axioms compatTurns_holds

end Go.Proofs.Ytiafkdnbfpfmiaa
