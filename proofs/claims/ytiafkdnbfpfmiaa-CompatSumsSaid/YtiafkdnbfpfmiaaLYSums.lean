/-
  CompatSums returns true for every input: the patterns of an assignment have its counts, and know all that their correspondences know; a class with a conflict is refused. Conditions: none.
-/
import Derived.Test.YtiafkdnbfpfmiaaML
set_option linter.unusedVariables false
set_option linter.unusedSimpArgs false
set_option maxHeartbeats 8000000
set_option maxRecDepth 10000
namespace Go.Cp
open Go Go.Proofs Go.Vx

theorem aput_len (k v : Int) : ∀ es : List (Int × Int), aget k es = none → (aput k v es).length = es.length + 1
  | [], _ => rfl
  | p :: r, h => by
    simp only [aget] at h
    split at h
    · cases h
    · rename_i hk
      simp only [aput, if_neg hk, List.length_cons, aput_len k v r h]
theorem confs_nil {l : List Corr} (hF : Fine l (headLen l)) : confs fitC l l.length = [] ↔ ∀ i j, i < j → j < l.length → fitR (cellsAt l i) (cellsAt l j) = true := by
  refine ⟨fun h i j hij hj => ?_, fun h => ?_⟩
  · cases hf : fitR (cellsAt l i) (cellsAt l j) with
    | true => rfl
    | false =>
      exfalso
      have : (i, j) ∈ confs fitC l l.length := by
        rw [confs, List.mem_flatMap]
        refine ⟨i, List.mem_range.2 (by omega), ?_⟩
        rw [confRow, List.mem_filterMap]
        refine ⟨j, by rw [List.mem_range'_1]; omega, ?_⟩
        rw [fit_same (hF.at_ok (by omega)) (hF.at_ok hj), hf]; rfl
      rw [h] at this
      cases this
  · rw [List.eq_nil_iff_forall_not_mem]
    intro p hp
    rw [confs, List.mem_flatMap] at hp
    obtain ⟨i, hi, hp⟩ := hp
    rw [confRow, List.mem_filterMap] at hp
    obtain ⟨j, hj, he⟩ := hp
    rw [List.mem_range'_1] at hj
    rw [List.mem_range] at hi
    rw [fit_same (hF.at_ok (by omega)) (hF.at_ok (by omega)), h i j (by omega) (by omega)] at he
    cases he

theorem d80 : decide ((8 : Int) = 0) = false := rfl
theorem z0 : ((0 : Nat) : Int) = 0 := rfl
theorem sums_law (x : List Nat) (hx : ∀ n ∈ x, n < 65536) : Ok Try.prog E 8 [.c (.sl (x.map u16D))] (bv true) := by
  refine ok_of_vc (L := []) (ts := [2]) envOK mixed Try.func8 rfl (by kernel_rfl) rfl (by kernel_rfl) rfl fun hl => ?_
  have hmade : Ok Try.prog E 32 [.c (.sl (x.map u16D))] (.c (corrs (madeC x))) := Ok.val (made_ok x hx)
  have hlen : (madeC x).length ≤ 12 := by rw [made_len]; omega
  have k1 := made_check x 256 (by omega)
  have hb := made_bound x
  have hlist := made_list x
  have hin := made_in (l := x)
  have hmem := fun c => made_mem (l := x) (c := c)
  generalize madeC x = L at hmade hlen k1 hb hlist hin hmem
  have hF := Fine.of hlist
  have hgs := greedy_same hlist
  have hA := refAt_asg L
  have hca := canon_iff.2 hA.can
  have hal := hA.len
  generalize refAt L L.length = a at hA hgs hca hal
  have hpE : ∀ ls, Can ls → ls.length = L.length → patE L ls = (if allowedR L ls = true then 0 else 8) ∧ patO L ls = (if allowedR L ls = true then outR L ls L.length else []) := fun ls h1 h2 => by
    obtain ⟨p1, p2⟩ := patterns_same (labels := ls) hin
    have hc := check_same hin 256
    have e : patER L ls = (if allowedR L ls = true then 0 else 8) := by
      rw [patER, hc, if_neg (by simpa using k1), if_pos ⟨h2, canon_iff.2 h1⟩]
    refine ⟨by rw [← p1, e], ?_⟩
    rw [← p2, patOR, e]
    cases allowedR L ls <;> rfl
  obtain ⟨hp1, hp2⟩ := hpE a hA.can hal
  rw [if_pos hA.ok] at hp1 hp2
  obtain ⟨P, hP⟩ : ∃ P, outR L a L.length = P := ⟨_, rfl⟩
  have hPl : manyC a a.length = P.length := by rw [← hP, outR_many, hal]
  have hPs : sumL P P.length = sumL L L.length := by rw [← hP]; exact sum_all hA.can hal
  have hPat : ∀ k, k < L.length → a.getD k 0 = (k : Int) → manyC a k < P.length ∧ P.getD (manyC a k) Corr.zero = rowTo' L a k L.length := fun k hk hd => by
    rw [← hP]; exact outR_at L a hd L.length hk
  have hPle : P.length ≤ 12 := by rw [← hP, outR_many]; have := manyC_le a L.length; omega
  have hLc : ∀ c ∈ L, 0 ≤ c.count ∧ c.count ≤ 6 := fun c hc => ⟨(hmem c hc).2.2.1, (hmem c hc).2.2.2⟩
  have hPc : ∀ c ∈ P, 0 ≤ c.count ∧ c.count ≤ 100000000000 := fun c hc => by
    rw [← hP, outR, List.mem_filterMap] at hc
    obtain ⟨k, hk, he⟩ := hc
    rw [List.mem_range] at hk
    split at he
    · injection he with he
      have := rowTo'_ok (labels := a) (m := headLen L) (fun c hc => ⟨hF.len c hc, (hLc c hc).1, by have := (hLc c hc).2; omega⟩) hk L.length (Nat.le_refl _)
      rw [← he]
      omega
    · cases he
  rw [hP] at hp2
  have hla : decide ((a.length : Int) = (L.length : Int)) = true := decide_eq_true (by omega)
  have hz := zeros_can L.length
  obtain ⟨hz1, hz2⟩ := hpE (List.replicate L.length 0) hz (by simp)
  have hza := zeros_allowed L
  have hcn := confs_nil hF
  simp only [Try.f8, bv, nv, k1, hgs, hp1, hp2, hca, hla, hPl, num_beq, beq_self_eq_true, bne_self_eq_false, List.all_cons, List.all_nil, Bool.cond_self, scD, valA, if_true, VL, VB, BEq.rfl, V1, V2, V3, V4, V5, V6, V7, V8, V9, V10, VE, Nat.reduceBEq, Nat.reduceAdd, Nat.reduceSub, Nat.reduceMul, Nat.reduceLeDiff, Nat.reduceLT, Nat.reduceEqDiff, Int.reduceBEq, Int.reduceBNe, Int.reduceLT, Int.reduceLE, Int.reduceAdd, Int.reduceSub, Int.reduceMul]
  refine CallX.mk hmade rfl ?_
  simp only [bv, nv, k1, hgs, hp1, hp2, hca, hla, hPl, num_beq, beq_self_eq_true, bne_self_eq_false, List.all_cons, List.all_nil, Bool.cond_self, scD, valA, if_true, VL, VB, BEq.rfl, V1, V2, V3, V4, V5, V6, V7, V8, V9, V10, VE, Nat.reduceBEq, Nat.reduceAdd, Nat.reduceSub, Nat.reduceMul, Nat.reduceLeDiff, Nat.reduceLT, Nat.reduceEqDiff, Int.reduceBEq, Int.reduceBNe, Int.reduceLT, Int.reduceLE, Int.reduceAdd, Int.reduceSub, Int.reduceMul]
  refine CallX.mk (Ok.vals (greedy_ok L hb)) rfl ?_
  simp only [bv, nv, k1, hgs, hp1, hp2, hca, hla, hPl, num_beq, beq_self_eq_true, bne_self_eq_false, List.all_cons, List.all_nil, Bool.cond_self, scD, valA, if_true, VL, VB, BEq.rfl, V1, V2, V3, V4, V5, V6, V7, V8, V9, V10, VE, Nat.reduceBEq, Nat.reduceAdd, Nat.reduceSub, Nat.reduceMul, Nat.reduceLeDiff, Nat.reduceLT, Nat.reduceEqDiff, Int.reduceBEq, Int.reduceBNe, Int.reduceLT, Int.reduceLE, Int.reduceAdd, Int.reduceSub, Int.reduceMul]
  refine CallX.mk (labelled_ok a L.length) rfl ?_
  simp only [bv, nv, k1, hgs, hp1, hp2, hca, hla, hPl, num_beq, beq_self_eq_true, bne_self_eq_false, List.all_cons, List.all_nil, Bool.cond_self, scD, valA, if_true, VL, VB, BEq.rfl, V1, V2, V3, V4, V5, V6, V7, V8, V9, V10, VE, Nat.reduceBEq, Nat.reduceAdd, Nat.reduceSub, Nat.reduceMul, Nat.reduceLeDiff, Nat.reduceLT, Nat.reduceEqDiff, Int.reduceBEq, Int.reduceBNe, Int.reduceLT, Int.reduceLE, Int.reduceAdd, Int.reduceSub, Int.reduceMul]
  refine CallX.mk (Ok.vals (patterns_ok L a hb)) rfl ?_
  simp only [bv, nv, k1, hgs, hp1, hp2, hca, hla, hPl, num_beq, beq_self_eq_true, bne_self_eq_false, List.all_cons, List.all_nil, Bool.cond_self, scD, valA, if_true, VL, VB, BEq.rfl, V1, V2, V3, V4, V5, V6, V7, V8, V9, V10, VE, Nat.reduceBEq, Nat.reduceAdd, Nat.reduceSub, Nat.reduceMul, Nat.reduceLeDiff, Nat.reduceLT, Nat.reduceEqDiff, Int.reduceBEq, Int.reduceBNe, Int.reduceLT, Int.reduceLE, Int.reduceAdd, Int.reduceSub, Int.reduceMul]
  refine CallX.mk (many_ok a) rfl ?_
  simp only [bv, nv, k1, hgs, hp1, hp2, hca, hla, hPl, num_beq, beq_self_eq_true, bne_self_eq_false, List.all_cons, List.all_nil, Bool.cond_self, scD, valA, if_true, VL, VB, BEq.rfl, V1, V2, V3, V4, V5, V6, V7, V8, V9, V10, VE, Nat.reduceBEq, Nat.reduceAdd, Nat.reduceSub, Nat.reduceMul, Nat.reduceLeDiff, Nat.reduceLT, Nat.reduceEqDiff, Int.reduceBEq, Int.reduceBNe, Int.reduceLT, Int.reduceLE, Int.reduceAdd, Int.reduceSub, Int.reduceMul]
  refine LoopVC.cut (Y := Nat × List (Int × Int)) (Z := Unit) 0 (fun y => y.1 ≤ L.length ∧ y.2.length = manyC a y.1 ∧ (∀ k, k < y.1 → a.getD k 0 = (k : Int) → aget (k : Int) y.2 = some (manyC a k : Int)) ∧ ∀ k : Nat, y.1 ≤ k → aget (k : Int) y.2 = none)
    (fun y => ⟨[(3, .c (corrs L)), (4, .c (nums a)), (6, .c (corrs P)), (8, .c (.sc (.int .i64 0))), (9, .c (.sc (.int .i64 (sumL L y.1)))), (10, .mp 48), (11, .c (.sc (.int .i64 y.1)))], [(48, .map 3 3 (y.2.map pr))]⟩) (fun y => L.length - y.1)
    (fun _ => True) (fun _ => ⟨[(3, .c (corrs L)), (6, .c (corrs P)), (8, .c (.sc (.int .i64 0))), (9, .c (.sc (.int .i64 (sumL L L.length))))], []⟩) ⟨(0, []), Enter.id ?_, Nat.zero_le _, rfl, fun k hk => (by simp at hk), fun k _ => rfl⟩ ?_ ?_
  · simp only [sumL, sumN, List.map_nil, bv, nv, k1, hgs, hp1, hp2, hca, hla, hPl, num_beq, beq_self_eq_true, bne_self_eq_false, List.all_cons, List.all_nil, Bool.cond_self, scD, valA, if_true, VL, VB, BEq.rfl, V1, V2, V3, V4, V5, V6, V7, V8, V9, V10, VE, Nat.reduceBEq, Nat.reduceAdd, Nat.reduceSub, Nat.reduceMul, Nat.reduceLeDiff, Nat.reduceLT, Nat.reduceEqDiff, Int.reduceBEq, Int.reduceBNe, Int.reduceLT, Int.reduceLE, Int.reduceAdd, Int.reduceSub, Int.reduceMul]
    first | done | rfl
  · rintro ⟨i, es⟩ ⟨hi, he1, he2, he3⟩
    simp only at hi he1 he2 he3
    simp only [lt_nat, bv, nv, k1, hgs, hp1, hp2, hca, hla, hPl, num_beq, beq_self_eq_true, bne_self_eq_false, List.all_cons, List.all_nil, Bool.cond_self, scD, valA, if_true, VL, VB, BEq.rfl, V1, V2, V3, V4, V5, V6, V7, V8, V9, V10, VE, Nat.reduceBEq, Nat.reduceAdd, Nat.reduceSub, Nat.reduceMul, Nat.reduceLeDiff, Nat.reduceLT, Nat.reduceEqDiff, Int.reduceBEq, Int.reduceBNe, Int.reduceLT, Int.reduceLE, Int.reduceAdd, Int.reduceSub, Int.reduceMul]
    refine guardB.mk (fun h => ?_) (fun h => ?_) <;> simp only [h, bv, nv, k1, hgs, hp1, hp2, hca, hla, hPl, num_beq, beq_self_eq_true, bne_self_eq_false, List.all_cons, List.all_nil, Bool.cond_self, scD, valA, if_true, VL, VB, BEq.rfl, V1, V2, V3, V4, V5, V6, V7, V8, V9, V10, VE, Nat.reduceBEq, Nat.reduceAdd, Nat.reduceSub, Nat.reduceMul, Nat.reduceLeDiff, Nat.reduceLT, Nat.reduceEqDiff, Int.reduceBEq, Int.reduceBNe, Int.reduceLT, Int.reduceLE, Int.reduceAdd, Int.reduceSub, Int.reduceMul]
    · have hi' : i < L.length := by simpa using h
      have hil : i < a.length := by omega
      obtain ⟨k, c1, c2, c3⟩ := hA.can i hil
      obtain ⟨c, hc⟩ : ∃ c, L.getD i Corr.zero = c := ⟨_, rfl⟩
      have hcm : c ∈ L := by rw [← hc]; exact getD_mem hi'
      have hcl : cellsAt L i = c.cells := by rw [cellsAt, hc]
      have hw := wrap_nat (k := i) (by omega)
      have hsb := sumL_bound hLc i hi
      have hcb := hLc c hcm
      have hs1 : sumL L (i + 1) = sumL L i + c.count := by rw [sumL, sumN, hc]; rfl
      have hws : IntKind.i64.wrap (sumL L i + c.count) = sumL L (i + 1) := by rw [hs1]; exact wrap_of (by omega) (by omega)
      have hkL : k < L.length := by omega
      obtain ⟨r1, r2, r3⟩ := row_fit hF hA hkL c3 L.length hkL (Nat.le_refl _)
      have hkn := r3 i hi' c1
      have hkn2 : knowsC (rowTo' L a k L.length).cells c.cells = true := by
        rw [knowsC, ← hcl, decide_eq_true (by rw [r1]; exact (hF.at_len hi').symm), hkn]; rfl
      obtain ⟨q1, q2⟩ := hPat k hkL c3
      have hln : manyC a (i + 1) = manyC a i + if a.getD i 0 = (i : Int) then 1 else 0 := manyC_succ a i
      simp only [getD_num, getD_corr, hil, hi', hc, c1, q1, q2, num_def, corr_def, int_beq, hw, hws, mfind_pr, mput_pr, lookOpt_pr _ rfl, kAgg, he1, bv, nv, k1, hgs, hp1, hp2, hca, hla, hPl, num_beq, beq_self_eq_true, bne_self_eq_false, List.all_cons, List.all_nil, Bool.cond_self, scD, valA, if_true, VL, VB, BEq.rfl, V1, V2, V3, V4, V5, V6, V7, V8, V9, V10, VE, Nat.reduceBEq, Nat.reduceAdd, Nat.reduceSub, Nat.reduceMul, Nat.reduceLeDiff, Nat.reduceLT, Nat.reduceEqDiff, Int.reduceBEq, Int.reduceBNe, Int.reduceLT, Int.reduceLE, Int.reduceAdd, Int.reduceSub, Int.reduceMul]
      refine ⟨Int.natCast_nonneg i, Int.natCast_nonneg i, guardB.mk (fun h3 => ?_) (fun h3 => ?_)⟩ <;> simp only [h3, getD_num, getD_corr, hil, hi', hc, c1, q1, q2, num_def, corr_def, int_beq, hw, hws, mfind_pr, mput_pr, lookOpt_pr _ rfl, kAgg, he1, bv, nv, k1, hgs, hp1, hp2, hca, hla, hPl, num_beq, beq_self_eq_true, bne_self_eq_false, List.all_cons, List.all_nil, Bool.cond_self, scD, valA, if_true, VL, VB, BEq.rfl, V1, V2, V3, V4, V5, V6, V7, V8, V9, V10, VE, Nat.reduceBEq, Nat.reduceAdd, Nat.reduceSub, Nat.reduceMul, Nat.reduceLeDiff, Nat.reduceLT, Nat.reduceEqDiff, Int.reduceBEq, Int.reduceBNe, Int.reduceLT, Int.reduceLE, Int.reduceAdd, Int.reduceSub, Int.reduceMul]
      · have hke : k = i := by simp at h3; omega
        subst hke
        have hg : aget (k : Int) (aput (k : Int) (manyC a k : Int) es) = some (manyC a k : Int) := by rw [aget_aput, if_pos rfl]
        simp only [hg, getD_num, getD_corr, hil, hi', hc, c1, q1, q2, num_def, corr_def, int_beq, hw, hws, mfind_pr, mput_pr, lookOpt_pr _ rfl, kAgg, he1, bv, nv, k1, hgs, hp1, hp2, hca, hla, hPl, num_beq, beq_self_eq_true, bne_self_eq_false, List.all_cons, List.all_nil, Bool.cond_self, scD, valA, if_true, VL, VB, BEq.rfl, V1, V2, V3, V4, V5, V6, V7, V8, V9, V10, VE, Nat.reduceBEq, Nat.reduceAdd, Nat.reduceSub, Nat.reduceMul, Nat.reduceLeDiff, Nat.reduceLT, Nat.reduceEqDiff, Int.reduceBEq, Int.reduceBNe, Int.reduceLT, Int.reduceLE, Int.reduceAdd, Int.reduceSub, Int.reduceMul]
        refine ⟨Int.natCast_nonneg k, Int.natCast_nonneg _, Int.natCast_nonneg k, ?_⟩
        refine CallX.mk (knows_ok _ _) rfl ?_
        simp only [hkn2, getD_num, getD_corr, hil, hi', hc, c1, q1, q2, num_def, corr_def, int_beq, hw, hws, mfind_pr, mput_pr, lookOpt_pr _ rfl, kAgg, he1, bv, nv, k1, hgs, hp1, hp2, hca, hla, hPl, num_beq, beq_self_eq_true, bne_self_eq_false, List.all_cons, List.all_nil, Bool.cond_self, scD, valA, if_true, VL, VB, BEq.rfl, V1, V2, V3, V4, V5, V6, V7, V8, V9, V10, VE, Nat.reduceBEq, Nat.reduceAdd, Nat.reduceSub, Nat.reduceMul, Nat.reduceLeDiff, Nat.reduceLT, Nat.reduceEqDiff, Int.reduceBEq, Int.reduceBNe, Int.reduceLT, Int.reduceLE, Int.reduceAdd, Int.reduceSub, Int.reduceMul]
        have hal2 : (aput (k : Int) (manyC a k : Int) es).length = manyC a (k + 1) := by
          rw [aput_len _ _ _ (he3 k (Nat.le_refl _)), hln, if_pos c1, he1]
        refine ⟨(k + 1, aput (k : Int) (manyC a k : Int) es), Enter.id ?_, ⟨by show k + 1 ≤ _; omega, hal2, fun q hq hd => ?_, fun q hq => ?_⟩, by show L.length - (k + 1) < L.length - k; omega⟩
        · simp only [getD_num, getD_corr, hil, hi', hc, c1, q1, q2, num_def, corr_def, int_beq, hw, hws, mfind_pr, mput_pr, lookOpt_pr _ rfl, kAgg, he1, bv, nv, k1, hgs, hp1, hp2, hca, hla, hPl, num_beq, beq_self_eq_true, bne_self_eq_false, List.all_cons, List.all_nil, Bool.cond_self, scD, valA, if_true, VL, VB, BEq.rfl, V1, V2, V3, V4, V5, V6, V7, V8, V9, V10, VE, Nat.reduceBEq, Nat.reduceAdd, Nat.reduceSub, Nat.reduceMul, Nat.reduceLeDiff, Nat.reduceLT, Nat.reduceEqDiff, Int.reduceBEq, Int.reduceBNe, Int.reduceLT, Int.reduceLE, Int.reduceAdd, Int.reduceSub, Int.reduceMul]
        · rw [aget_aput]
          by_cases hqk : q = k
          · subst hqk; rw [if_pos rfl]
          · rw [if_neg (by omega)]
            have hq' : q < k + 1 := hq
            exact he2 q (by omega) hd
        · have hq' : k + 1 ≤ q := hq
          rw [aget_aput, if_neg (by omega)]
          exact he3 q (by omega)
      · have hke : ¬ k = i := by simp at h3; omega
        have hg := he2 k (by omega) c3
        simp only [hg, getD_num, getD_corr, hil, hi', hc, c1, q1, q2, num_def, corr_def, int_beq, hw, hws, mfind_pr, mput_pr, lookOpt_pr _ rfl, kAgg, he1, bv, nv, k1, hgs, hp1, hp2, hca, hla, hPl, num_beq, beq_self_eq_true, bne_self_eq_false, List.all_cons, List.all_nil, Bool.cond_self, scD, valA, if_true, VL, VB, BEq.rfl, V1, V2, V3, V4, V5, V6, V7, V8, V9, V10, VE, Nat.reduceBEq, Nat.reduceAdd, Nat.reduceSub, Nat.reduceMul, Nat.reduceLeDiff, Nat.reduceLT, Nat.reduceEqDiff, Int.reduceBEq, Int.reduceBNe, Int.reduceLT, Int.reduceLE, Int.reduceAdd, Int.reduceSub, Int.reduceMul]
        refine ⟨Int.natCast_nonneg i, Int.natCast_nonneg _, Int.natCast_nonneg i, ?_⟩
        refine CallX.mk (knows_ok _ _) rfl ?_
        simp only [hkn2, getD_num, getD_corr, hil, hi', hc, c1, q1, q2, num_def, corr_def, int_beq, hw, hws, mfind_pr, mput_pr, lookOpt_pr _ rfl, kAgg, he1, bv, nv, k1, hgs, hp1, hp2, hca, hla, hPl, num_beq, beq_self_eq_true, bne_self_eq_false, List.all_cons, List.all_nil, Bool.cond_self, scD, valA, if_true, VL, VB, BEq.rfl, V1, V2, V3, V4, V5, V6, V7, V8, V9, V10, VE, Nat.reduceBEq, Nat.reduceAdd, Nat.reduceSub, Nat.reduceMul, Nat.reduceLeDiff, Nat.reduceLT, Nat.reduceEqDiff, Int.reduceBEq, Int.reduceBNe, Int.reduceLT, Int.reduceLE, Int.reduceAdd, Int.reduceSub, Int.reduceMul]
        refine ⟨(i + 1, es), Enter.id ?_, ⟨by show i + 1 ≤ _; omega, by show es.length = _; rw [hln, if_neg (by rw [c1]; omega), he1]; rfl, fun q hq hd => ?_, fun q hq => ?_⟩, by show L.length - (i + 1) < L.length - i; omega⟩
        · simp only [getD_num, getD_corr, hil, hi', hc, c1, q1, q2, num_def, corr_def, int_beq, hw, hws, mfind_pr, mput_pr, lookOpt_pr _ rfl, kAgg, he1, bv, nv, k1, hgs, hp1, hp2, hca, hla, hPl, num_beq, beq_self_eq_true, bne_self_eq_false, List.all_cons, List.all_nil, Bool.cond_self, scD, valA, if_true, VL, VB, BEq.rfl, V1, V2, V3, V4, V5, V6, V7, V8, V9, V10, VE, Nat.reduceBEq, Nat.reduceAdd, Nat.reduceSub, Nat.reduceMul, Nat.reduceLeDiff, Nat.reduceLT, Nat.reduceEqDiff, Int.reduceBEq, Int.reduceBNe, Int.reduceLT, Int.reduceLE, Int.reduceAdd, Int.reduceSub, Int.reduceMul]
        · have hq' : q < i + 1 := hq
          have hqi : q ≠ i := fun e => by rw [e, c1] at hd; omega
          exact he2 q (by omega) hd
        · have hq' : i + 1 ≤ q := hq
          exact he3 q (by omega)
    · have hie : i = L.length := by
        have : ¬ i < L.length := by simpa using h
        omega
      subst hie
      refine ⟨(), Enter.id ?_, trivial⟩
      simp only [bv, nv, k1, hgs, hp1, hp2, hca, hla, hPl, num_beq, beq_self_eq_true, bne_self_eq_false, List.all_cons, List.all_nil, Bool.cond_self, scD, valA, if_true, VL, VB, BEq.rfl, V1, V2, V3, V4, V5, V6, V7, V8, V9, V10, VE, Nat.reduceBEq, Nat.reduceAdd, Nat.reduceSub, Nat.reduceMul, Nat.reduceLeDiff, Nat.reduceLT, Nat.reduceEqDiff, Int.reduceBEq, Int.reduceBNe, Int.reduceLT, Int.reduceLE, Int.reduceAdd, Int.reduceSub, Int.reduceMul]
  · rintro _ _
    simp only [bv, nv, k1, hgs, hp1, hp2, hca, hla, hPl, num_beq, beq_self_eq_true, bne_self_eq_false, List.all_cons, List.all_nil, Bool.cond_self, scD, valA, if_true, VL, VB, BEq.rfl, V1, V2, V3, V4, V5, V6, V7, V8, V9, V10, VE, Nat.reduceBEq, Nat.reduceAdd, Nat.reduceSub, Nat.reduceMul, Nat.reduceLeDiff, Nat.reduceLT, Nat.reduceEqDiff, Int.reduceBEq, Int.reduceBNe, Int.reduceLT, Int.reduceLE, Int.reduceAdd, Int.reduceSub, Int.reduceMul]
    refine LoopVC.cut (Y := Nat) (Z := Unit) 2 (fun j => j ≤ P.length) (fun j => ⟨[(3, .c (corrs L)), (6, .c (corrs P)), (8, .c (.sc (.int .i64 (sumL P j)))), (9, .c (.sc (.int .i64 (sumL L L.length)))), (12, .c (.sc (.int .i64 j)))], []⟩) (fun j => P.length - j)
      (fun _ => True) (fun _ => ⟨[(3, .c (corrs L)), (8, .c (.sc (.int .i64 (sumL L L.length)))), (9, .c (.sc (.int .i64 (sumL L L.length))))], []⟩) ⟨0, Enter.id ?_, Nat.zero_le _⟩ ?_ ?_
    · simp only [sumL, sumN, bv, nv, k1, hgs, hp1, hp2, hca, hla, hPl, num_beq, beq_self_eq_true, bne_self_eq_false, List.all_cons, List.all_nil, Bool.cond_self, scD, valA, if_true, VL, VB, BEq.rfl, V1, V2, V3, V4, V5, V6, V7, V8, V9, V10, VE, Nat.reduceBEq, Nat.reduceAdd, Nat.reduceSub, Nat.reduceMul, Nat.reduceLeDiff, Nat.reduceLT, Nat.reduceEqDiff, Int.reduceBEq, Int.reduceBNe, Int.reduceLT, Int.reduceLE, Int.reduceAdd, Int.reduceSub, Int.reduceMul]
      first | done | rfl
    · intro j hj
      simp only [lt_nat, bv, nv, k1, hgs, hp1, hp2, hca, hla, hPl, num_beq, beq_self_eq_true, bne_self_eq_false, List.all_cons, List.all_nil, Bool.cond_self, scD, valA, if_true, VL, VB, BEq.rfl, V1, V2, V3, V4, V5, V6, V7, V8, V9, V10, VE, Nat.reduceBEq, Nat.reduceAdd, Nat.reduceSub, Nat.reduceMul, Nat.reduceLeDiff, Nat.reduceLT, Nat.reduceEqDiff, Int.reduceBEq, Int.reduceBNe, Int.reduceLT, Int.reduceLE, Int.reduceAdd, Int.reduceSub, Int.reduceMul]
      refine guardB.mk (fun h => ?_) (fun h => ?_) <;> simp only [h, bv, nv, k1, hgs, hp1, hp2, hca, hla, hPl, num_beq, beq_self_eq_true, bne_self_eq_false, List.all_cons, List.all_nil, Bool.cond_self, scD, valA, if_true, VL, VB, BEq.rfl, V1, V2, V3, V4, V5, V6, V7, V8, V9, V10, VE, Nat.reduceBEq, Nat.reduceAdd, Nat.reduceSub, Nat.reduceMul, Nat.reduceLeDiff, Nat.reduceLT, Nat.reduceEqDiff, Int.reduceBEq, Int.reduceBNe, Int.reduceLT, Int.reduceLE, Int.reduceAdd, Int.reduceSub, Int.reduceMul]
      · have hj' : j < P.length := by simpa using h
        obtain ⟨c, hc⟩ : ∃ c, P.getD j Corr.zero = c := ⟨_, rfl⟩
        have hcb := hPc c (by rw [← hc]; exact getD_mem hj')
        have hw := wrap_nat (k := j) (by omega)
        have hsb := sumL_bound hPc j hj
        have hs1 : sumL P (j + 1) = sumL P j + c.count := by rw [sumL, sumN, hc]; rfl
        have hws : IntKind.i64.wrap (sumL P j + c.count) = sumL P (j + 1) := by rw [hs1]; exact wrap_of (by omega) (by omega)
        simp only [getD_corr, hj', hc, corr_def, hws, hw, bv, nv, k1, hgs, hp1, hp2, hca, hla, hPl, num_beq, beq_self_eq_true, bne_self_eq_false, List.all_cons, List.all_nil, Bool.cond_self, scD, valA, if_true, VL, VB, BEq.rfl, V1, V2, V3, V4, V5, V6, V7, V8, V9, V10, VE, Nat.reduceBEq, Nat.reduceAdd, Nat.reduceSub, Nat.reduceMul, Nat.reduceLeDiff, Nat.reduceLT, Nat.reduceEqDiff, Int.reduceBEq, Int.reduceBNe, Int.reduceLT, Int.reduceLE, Int.reduceAdd, Int.reduceSub, Int.reduceMul]
        refine ⟨Int.natCast_nonneg j, j + 1, Enter.id ?_, by omega, by show P.length - (j + 1) < P.length - j; omega⟩
        simp only [bv, nv, k1, hgs, hp1, hp2, hca, hla, hPl, num_beq, beq_self_eq_true, bne_self_eq_false, List.all_cons, List.all_nil, Bool.cond_self, scD, valA, if_true, VL, VB, BEq.rfl, V1, V2, V3, V4, V5, V6, V7, V8, V9, V10, VE, Nat.reduceBEq, Nat.reduceAdd, Nat.reduceSub, Nat.reduceMul, Nat.reduceLeDiff, Nat.reduceLT, Nat.reduceEqDiff, Int.reduceBEq, Int.reduceBNe, Int.reduceLT, Int.reduceLE, Int.reduceAdd, Int.reduceSub, Int.reduceMul]
      · have hje : j = P.length := by
          have : ¬ j < P.length := by simpa using h
          omega
        subst hje
        refine ⟨(), Enter.id ?_, trivial⟩
        simp only [hPs, bv, nv, k1, hgs, hp1, hp2, hca, hla, hPl, num_beq, beq_self_eq_true, bne_self_eq_false, List.all_cons, List.all_nil, Bool.cond_self, scD, valA, if_true, VL, VB, BEq.rfl, V1, V2, V3, V4, V5, V6, V7, V8, V9, V10, VE, Nat.reduceBEq, Nat.reduceAdd, Nat.reduceSub, Nat.reduceMul, Nat.reduceLeDiff, Nat.reduceLT, Nat.reduceEqDiff, Int.reduceBEq, Int.reduceBNe, Int.reduceLT, Int.reduceLE, Int.reduceAdd, Int.reduceSub, Int.reduceMul]
    · rintro _ _
      simp only [bv, nv, k1, hgs, hp1, hp2, hca, hla, hPl, num_beq, beq_self_eq_true, bne_self_eq_false, List.all_cons, List.all_nil, Bool.cond_self, scD, valA, if_true, VL, VB, BEq.rfl, V1, V2, V3, V4, V5, V6, V7, V8, V9, V10, VE, Nat.reduceBEq, Nat.reduceAdd, Nat.reduceSub, Nat.reduceMul, Nat.reduceLeDiff, Nat.reduceLT, Nat.reduceEqDiff, Int.reduceBEq, Int.reduceBNe, Int.reduceLT, Int.reduceLE, Int.reduceAdd, Int.reduceSub, Int.reduceMul]
      refine CallX.mk (Ok.vals (conflicts_ok L)) rfl ?_
      simp only [rep_num, bv, nv, k1, hgs, hp1, hp2, hca, hla, hPl, num_beq, beq_self_eq_true, bne_self_eq_false, List.all_cons, List.all_nil, Bool.cond_self, scD, valA, if_true, VL, VB, BEq.rfl, V1, V2, V3, V4, V5, V6, V7, V8, V9, V10, VE, Nat.reduceBEq, Nat.reduceAdd, Nat.reduceSub, Nat.reduceMul, Nat.reduceLeDiff, Nat.reduceLT, Nat.reduceEqDiff, Int.reduceBEq, Int.reduceBNe, Int.reduceLT, Int.reduceLE, Int.reduceAdd, Int.reduceSub, Int.reduceMul]
      refine ⟨⟨Int.natCast_nonneg _, by omega⟩, ?_⟩
      refine CallX.mk (Ok.vals (patterns_ok L (List.replicate L.length 0) hb)) rfl ?_
      simp only [bv, nv, k1, hgs, hp1, hp2, hca, hla, hPl, num_beq, beq_self_eq_true, bne_self_eq_false, List.all_cons, List.all_nil, Bool.cond_self, scD, valA, if_true, VL, VB, BEq.rfl, V1, V2, V3, V4, V5, V6, V7, V8, V9, V10, VE, Nat.reduceBEq, Nat.reduceAdd, Nat.reduceSub, Nat.reduceMul, Nat.reduceLeDiff, Nat.reduceLT, Nat.reduceEqDiff, Int.reduceBEq, Int.reduceBNe, Int.reduceLT, Int.reduceLE, Int.reduceAdd, Int.reduceSub, Int.reduceMul]
      by_cases hall : ∀ i j, i < j → j < L.length → fitR (cellsAt L i) (cellsAt L j) = true
      · rw [if_pos (hza.2 hall)] at hz1
        have hC := hcn.2 hall
        simp only [hz1, hC, List.map_nil, z0, bv, nv, k1, hgs, hp1, hp2, hca, hla, hPl, num_beq, beq_self_eq_true, bne_self_eq_false, List.all_cons, List.all_nil, Bool.cond_self, scD, valA, if_true, VL, VB, BEq.rfl, V1, V2, V3, V4, V5, V6, V7, V8, V9, V10, VE, Nat.reduceBEq, Nat.reduceAdd, Nat.reduceSub, Nat.reduceMul, Nat.reduceLeDiff, Nat.reduceLT, Nat.reduceEqDiff, Int.reduceBEq, Int.reduceBNe, Int.reduceLT, Int.reduceLE, Int.reduceAdd, Int.reduceSub, Int.reduceMul]
        refine CallX.mk works_ok rfl ?_
        simp only [bv, nv, k1, hgs, hp1, hp2, hca, hla, hPl, num_beq, beq_self_eq_true, bne_self_eq_false, List.all_cons, List.all_nil, Bool.cond_self, scD, valA, if_true, VL, VB, BEq.rfl, V1, V2, V3, V4, V5, V6, V7, V8, V9, V10, VE, Nat.reduceBEq, Nat.reduceAdd, Nat.reduceSub, Nat.reduceMul, Nat.reduceLeDiff, Nat.reduceLT, Nat.reduceEqDiff, Int.reduceBEq, Int.reduceBNe, Int.reduceLT, Int.reduceLE, Int.reduceAdd, Int.reduceSub, Int.reduceMul]
      · have hna : ¬ allowedR L (List.replicate L.length 0) = true := fun h => hall (hza.1 h)
        rw [if_neg hna] at hz1 hz2
        have hC : ¬ confs fitC L L.length = [] := fun h => hall (hcn.1 h)
        have hCl : (((confs fitC L L.length).length : Int) == 0) = false := by
          rw [int_beq]
          apply decide_eq_false
          intro h
          exact hC (List.length_eq_zero_iff.1 (by omega))
        simp only [hz1, hz2, hCl, List.map_nil, z0, d80, bv, nv, k1, hgs, hp1, hp2, hca, hla, hPl, num_beq, beq_self_eq_true, bne_self_eq_false, List.all_cons, List.all_nil, Bool.cond_self, scD, valA, if_true, VL, VB, BEq.rfl, V1, V2, V3, V4, V5, V6, V7, V8, V9, V10, VE, Nat.reduceBEq, Nat.reduceAdd, Nat.reduceSub, Nat.reduceMul, Nat.reduceLeDiff, Nat.reduceLT, Nat.reduceEqDiff, Int.reduceBEq, Int.reduceBNe, Int.reduceLT, Int.reduceLE, Int.reduceAdd, Int.reduceSub, Int.reduceMul]
        refine CallX.mk works_ok rfl ?_
        simp only [bv, nv, k1, hgs, hp1, hp2, hca, hla, hPl, num_beq, beq_self_eq_true, bne_self_eq_false, List.all_cons, List.all_nil, Bool.cond_self, scD, valA, if_true, VL, VB, BEq.rfl, V1, V2, V3, V4, V5, V6, V7, V8, V9, V10, VE, Nat.reduceBEq, Nat.reduceAdd, Nat.reduceSub, Nat.reduceMul, Nat.reduceLeDiff, Nat.reduceLT, Nat.reduceEqDiff, Int.reduceBEq, Int.reduceBNe, Int.reduceLT, Int.reduceLE, Int.reduceAdd, Int.reduceSub, Int.reduceMul]

end Go.Cp
namespace Go.Proofs.Ytiafkdnbfpfmiaa
open Go Go.Proofs Go.RowKit Go.ChangeShapes Go.WideShapes Go.ChangeAt Go.Vx Go.Cp

theorem compatSums_lifted (os : Os) (started : os.Started) (H : Type) (enc : TypeId × Value → H) :
    ReturnsInHanded {} Try.checked os 8 .any (Rows.compatSumsSpec.pre6 enc Try.prog Try.f8 Rows.compatSumsRow.domain false) (Rows.compatSumsSpec.post enc Try.prog Try.f8 false true false false) := by
  refine law_lifted (m := 8) (tb := 4) os started H enc own laid (by kernel_rfl) Try.func8 rfl Try.underlying4 rfl ?_ (by kernel_rfl) (by kernel_rfl)
    (ChangeSpec.witness6 (enc := enc) (C := Try.checked) false ⟨#[], #[.slice none 0 0], []⟩ 8 (by kernel_rfl) (by kernel_rfl) (by kernel_rfl) (by kernel_rfl)) ?_
  · rw [Try.params8]
    intro ds hd
    match ds, hd with
    | [d1], _ => exact ⟨rfl, rfl, rfl⟩
  · rw [Try.params8]
    intro dss h
    match dss, h with
    | [x1], ⟨h1, _⟩ =>
      obtain ⟨x, rfl, hx⟩ := typed_u16s (m := 6) h1
      simp only [argsAV, argAV, Try.underlying50]
      exact sums_law x hx

theorem compatSums_holds : Rows.CompatSumsSaid :=
  OpenClaim.holds_of_wide 8 Try.f8 rfl rfl rfl rfl rfl rfl rfl ⟨rfl, rfl, rfl, rfl, rfl⟩ rfl rfl rfl rfl rfl (by kernel_rfl) Try.func8 (by kernel_rfl)
    (of_decide_eq_true (by kernel_rfl)) (by unfold Func.isWrapper; first | (rw [if_pos (by decide +kernel)]; kernel_rfl) | (rw [if_neg (by decide +kernel)]; exact ⟨rfl, rfl⟩))
    (fun os started H enc _ => compatSums_lifted os started H enc)
#print axioms compatSums_holds

end Go.Proofs.Ytiafkdnbfpfmiaa
