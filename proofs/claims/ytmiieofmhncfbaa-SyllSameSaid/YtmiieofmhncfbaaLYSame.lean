/-
  SyllSame returns true for every input: rhyming is symmetric; a word rhymes with itself exactly if it has a peak, and with itself after any sounds before it. Conditions: none.
-/
import Derived.Test.YtmiieofmhncfbaaMJ
set_option linter.unusedVariables false
set_option linter.unusedSimpArgs false
set_option maxHeartbeats 8000000
set_option maxRecDepth 100000
namespace Go.Cp
open Go Go.Proofs Go.Vx

theorem lastPk_none {p : Int} {lv : List Nat} : ∀ {k : Nat}, lastPk p lv k = none → ∀ i, i < k → ¬ p ≤ (lv.getD i 0 : Int)
  | 0, _, i, h => by omega
  | k + 1, h, i, hi => by
    rw [lastPk] at h
    split at h
    · cases h
    · rename_i hb
      by_cases hik : i = k
      · subst hik; exact hb
      · exact lastPk_none h i (by omega)
theorem lastPk_some {p : Int} {lv : List Nat} : ∀ {k j : Nat}, lastPk p lv k = some j → j < k ∧ p ≤ (lv.getD j 0 : Int)
  | 0, j, h => by cases h
  | k + 1, j, h => by
    rw [lastPk] at h
    split at h
    · rename_i hb
      injection h with h
      subst h
      exact ⟨by omega, hb⟩
    · have := lastPk_some h
      exact ⟨by omega, this.2⟩
theorem lastPk_app {p : Int} (a b : List Nat) : ∀ k j, lastPk p b k = some j → lastPk p (a ++ b) (a.length + k) = some (a.length + j)
  | 0, j, h => by cases h
  | k + 1, j, h => by
    have e : (a ++ b).getD (a.length + k) 0 = b.getD k 0 := by
      simp only [List.getD, List.getElem?_append_right (Nat.le_add_right ..), Nat.add_sub_cancel_left]
    rw [show a.length + (k + 1) = (a.length + k) + 1 by omega, lastPk, e]
    rw [lastPk] at h
    split
    · rename_i hb
      rw [if_pos hb] at h
      injection h with h
      subst h; rfl
    · rename_i hb
      rw [if_neg hb] at h
      exact lastPk_app a b k j h
def pkTo (sc : List Snd) (p : Int) (w : List Snd) (k : Nat) : Bool := (w.take k).any (peakB sc p)
theorem pkTo_succ {sc : List Snd} {p : Int} {w : List Snd} {k : Nat} (h : k < w.length) : pkTo sc p w (k + 1) = (pkTo sc p w k || peakB sc p (w.getD k Snd.zero)) := by
  rw [pkTo, pkTo, List.take_add_one, List.getElem?_eq_getElem h, List.any_append, getD_of Snd.zero w k h]; simp
theorem rhymeL_peak {sc : List Snd} {p : Int} {w : List Snd} (hr : okR sc p = true) : (rhymeL p (lev sc w) w ≠ []) ↔ pkTo sc p w w.length = true := by
  have hpk : ∀ i, i < w.length → (p ≤ ((lev sc w).getD i 0 : Int) ↔ peakB sc p (w.getD i Snd.zero) = true) := fun i hi => by
    rw [lev_at hi, peakB, sonN, if_pos hr, decide_eq_true_eq]
  rw [pkTo, List.take_length, List.any_eq_true, rhymeL, lev_len]
  cases hl : lastPk p (lev sc w) w.length with
  | none =>
    constructor
    · intro h; exact absurd rfl h
    · rintro ⟨c, hc, hb⟩
      obtain ⟨i, hi, rfl⟩ := List.mem_iff_getElem.1 hc
      rw [← getD_of Snd.zero w i hi] at hb
      exact absurd ((hpk i hi).2 hb) (lastPk_none hl i hi)
  | some j =>
    obtain ⟨hj, hb⟩ := lastPk_some hl
    constructor
    · intro _
      refine ⟨_, List.getElem_mem hj, ?_⟩
      rw [← getD_of Snd.zero w j hj]
      exact (hpk j hj).1 hb
    · intro _ h
      have := congrArg List.length h
      simp only [List.length_drop, List.length_nil] at this
      omega
theorem rhymeL_app {sc : List Snd} {p : Int} {v w : List Snd} (h : rhymeL p (lev sc w) w ≠ []) : rhymeL p (lev sc (v ++ w)) (v ++ w) = rhymeL p (lev sc w) w := by
  rw [rhymeL, lev_len] at h ⊢
  rw [rhymeL, lev_len]
  cases hl : lastPk p (lev sc w) w.length with
  | none => rw [hl] at h; exact absurd rfl h
  | some j =>
    have := lastPk_app (lev sc v) (lev sc w) w.length j hl
    rw [lev_len, show lev sc v ++ lev sc w = lev sc (v ++ w) from by rw [lev, lev, lev, List.map_append]] at this
    rw [List.length_append, this]
    show (v ++ w).drop (v.length + j) = w.drop j
    rw [List.drop_append, List.drop_eq_nil_of_le (by omega), List.nil_append, Nat.add_sub_cancel_left]
theorem checkE_iff {sc : List Snd} {p : Int} {a b : List Snd} : checkE sc p [a, b] = 0 ↔ (ruleE sc p = 0 ∧ wordE a = 0 ∧ wordE b = 0) := by
  rw [checkE, firstE, firstE, firstE]
  by_cases h0 : ruleE sc p = 0
  · by_cases h1 : wordE a = 0
    · by_cases h2 : wordE b = 0
      · simp [h0, h1, h2]
      · simp [h0, h1, h2]
    · simp [h0, h1]
  · simp [h0]
theorem wordE_iff {w : List Snd} : wordE w = 0 ↔ (w.length ≤ 32 ∧ w.all okS = true) := by
  rw [wordE]
  by_cases h : 32 < w.length
  · rw [if_pos h]
    exact ⟨fun h => (by cases h), fun h2 => by omega⟩
  · rw [if_neg h]
    by_cases h2 : w.all okS = true
    · rw [if_pos h2]; exact ⟨fun _ => ⟨by omega, h2⟩, fun _ => rfl⟩
    · rw [if_neg h2]; exact ⟨fun h => (by cases h), fun h => absurd h.2 h2⟩
theorem same_law (sc : List Snd) (p : Int) (v w : List Snd) (hsc : AllIn sc) (hv : AllIn v) (hw : AllIn w) : Ok Try.prog E 12 [.ag (ruleD sc p), .c (word v), .c (word w)] (bv true) := by
  refine ok_of_vc (L := [(11, [(7, 8), (7, 9)]), (17, [(0, 2), (0, 4), (0, 6)])]) (ts := [6]) envOK mixed Try.func12 rfl (by kernel_rfl) rfl (by kernel_rfl) rfl fun hl => ?_
  have hlw := len_of (hl _ (List.mem_cons_of_mem _ (List.mem_cons_of_mem _ (List.mem_cons_self ..))))
  rw [List.length_map] at hlw
  have hsw : (checkE sc p [w, v] = 0) ↔ (checkE sc p [v, w] = 0) := by
    rw [checkE_iff, checkE_iff]
    exact ⟨fun h => ⟨h.1, h.2.2, h.2.1⟩, fun h => ⟨h.1, h.2.2, h.2.1⟩⟩
  have hsym : rhymeB sc p w v = rhymeB sc p v w := by
    rw [Bool.eq_iff_iff, rhymeB, rhymeB, decide_eq_true_eq, decide_eq_true_eq, hsw]
    exact ⟨fun h => ⟨h.1, by rw [← h.2.2]; exact h.2.1, h.2.2.symm⟩, fun h => ⟨h.1, by rw [← h.2.2]; exact h.2.1, h.2.2.symm⟩⟩
  have hvw : AllIn (v ++ w) := by
    intro k
    by_cases hk : k < v.length
    · rw [List.getD, List.getElem?_append_left hk]; exact hv k
    · rw [List.getD, List.getElem?_append_right (by omega)]; exact hw _
  simp only [Try.f12, word, nums, nats, zv, nv, bv, sv, beq_self_eq_true, VL, VB, BEq.rfl, V1, V2, V3, V4, V5, V6, V7, V8, V9, V10, V11, V12, V13, VE, Nat.reduceBEq, Nat.reduceAdd, Nat.reduceSub, Nat.reduceMul, Nat.reduceLeDiff, Nat.reduceLT, Nat.reduceEqDiff, Int.reduceBEq, Int.reduceBNe, Int.reduceLT, Int.reduceLE, Int.reduceAdd, Int.reduceSub, Int.reduceMul, kAgg, scD, List.all_cons, List.all_nil]
  refine CallX.mk (Rhyme_ok sc p v w hsc hv hw) rfl ?_
  simp only [word, nums, nats, zv, nv, bv, sv, beq_self_eq_true, VL, VB, BEq.rfl, V1, V2, V3, V4, V5, V6, V7, V8, V9, V10, V11, V12, V13, VE, Nat.reduceBEq, Nat.reduceAdd, Nat.reduceSub, Nat.reduceMul, Nat.reduceLeDiff, Nat.reduceLT, Nat.reduceEqDiff, Int.reduceBEq, Int.reduceBNe, Int.reduceLT, Int.reduceLE, Int.reduceAdd, Int.reduceSub, Int.reduceMul, kAgg, scD, List.all_cons, List.all_nil]
  refine CallX.mk (Rhyme_ok sc p w v hsc hw hv) rfl ?_
  rw [hsym]
  by_cases hc : checkE sc p [v, w] = 0
  case neg =>
    have h1 : (checkE sc p [v, w] != 0) = true := by simpa using hc
    have h2 : (checkE sc p [v, w] == 0) = false := by simpa using hc
    have h3 : (checkE sc p [w, v] == 0) = false := by simpa using (fun h => hc (hsw.1 h))
    simp only [h1, h2, h3, bne_self_eq_false, word, nums, nats, zv, nv, bv, sv, beq_self_eq_true, VL, VB, BEq.rfl, V1, V2, V3, V4, V5, V6, V7, V8, V9, V10, V11, V12, V13, VE, Nat.reduceBEq, Nat.reduceAdd, Nat.reduceSub, Nat.reduceMul, Nat.reduceLeDiff, Nat.reduceLT, Nat.reduceEqDiff, Int.reduceBEq, Int.reduceBNe, Int.reduceLT, Int.reduceLE, Int.reduceAdd, Int.reduceSub, Int.reduceMul, kAgg, scD, List.all_cons, List.all_nil]
    refine CallX.mk works_ok rfl ?_
    simp only [word, nums, nats, zv, nv, bv, sv, beq_self_eq_true, VL, VB, BEq.rfl, V1, V2, V3, V4, V5, V6, V7, V8, V9, V10, V11, V12, V13, VE, Nat.reduceBEq, Nat.reduceAdd, Nat.reduceSub, Nat.reduceMul, Nat.reduceLeDiff, Nat.reduceLT, Nat.reduceEqDiff, Int.reduceBEq, Int.reduceBNe, Int.reduceLT, Int.reduceLE, Int.reduceAdd, Int.reduceSub, Int.reduceMul, kAgg, scD, List.all_cons, List.all_nil]
  have hc3 : (checkE sc p [w, v] == 0) = true := by simpa using hsw.2 hc
  have hr := (checkE_two hc).1
  have hiff := checkE_iff.1 hc
  have hww : checkE sc p [w, w] = 0 := checkE_iff.2 ⟨hiff.1, hiff.2.2, hiff.2.2⟩
  obtain ⟨hwl, hwa⟩ := wordE_iff.1 hiff.2.2
  obtain ⟨hvl, hva⟩ := wordE_iff.1 hiff.2.1
  have hadd : IntKind.i64.wrap ((v.length : Int) + (w.length : Int)) = ((v.length + w.length : Nat) : Int) := by rw [wrap_in (by omega) (by omega)]; omega
  have hown : rhymeB sc p w w = pkTo sc p w w.length := by
    rw [Bool.eq_iff_iff, rhymeB, decide_eq_true_eq, ← rhymeL_peak hr]
    exact ⟨fun h => h.2.1, fun h => ⟨hww, h, rfl⟩⟩
  simp only [hadd, hc, hc3, bne_self_eq_false, List.length_map, word, nums, nats, zv, nv, bv, sv, beq_self_eq_true, VL, VB, BEq.rfl, V1, V2, V3, V4, V5, V6, V7, V8, V9, V10, V11, V12, V13, VE, Nat.reduceBEq, Nat.reduceAdd, Nat.reduceSub, Nat.reduceMul, Nat.reduceLeDiff, Nat.reduceLT, Nat.reduceEqDiff, Int.reduceBEq, Int.reduceBNe, Int.reduceLT, Int.reduceLE, Int.reduceAdd, Int.reduceSub, Int.reduceMul, kAgg, scD, List.all_cons, List.all_nil]
  refine LoopVC.mk (Y := Nat) (fun k => k ≤ w.length) (fun k => ⟨[(1, .c (word v)), (2, .c (word w)), (3, .bp 3 0), (11, bv (pkTo sc p w k)), (12, nv k)], [(3, .cells [.c (word sc), zv p])]⟩) (fun k => w.length - k) ⟨0, Enter.mk [] [] [] ?_, by omega⟩ ?_
  · simp only [hadd, hc, hc3, bne_self_eq_false, List.length_map, word, nums, nats, zv, nv, bv, sv, beq_self_eq_true, VL, VB, BEq.rfl, V1, V2, V3, V4, V5, V6, V7, V8, V9, V10, V11, V12, V13, VE, Nat.reduceBEq, Nat.reduceAdd, Nat.reduceSub, Nat.reduceMul, Nat.reduceLeDiff, Nat.reduceLT, Nat.reduceEqDiff, Int.reduceBEq, Int.reduceBNe, Int.reduceLT, Int.reduceLE, Int.reduceAdd, Int.reduceSub, Int.reduceMul, kAgg, scD, List.all_cons, List.all_nil]
    exact ⟨rfl, rfl⟩
  intro k hk
  simp only [lt_nat, hadd, hc, hc3, bne_self_eq_false, List.length_map, word, nums, nats, zv, nv, bv, sv, beq_self_eq_true, VL, VB, BEq.rfl, V1, V2, V3, V4, V5, V6, V7, V8, V9, V10, V11, V12, V13, VE, Nat.reduceBEq, Nat.reduceAdd, Nat.reduceSub, Nat.reduceMul, Nat.reduceLeDiff, Nat.reduceLT, Nat.reduceEqDiff, Int.reduceBEq, Int.reduceBNe, Int.reduceLT, Int.reduceLE, Int.reduceAdd, Int.reduceSub, Int.reduceMul, kAgg, scD, List.all_cons, List.all_nil]
  refine guardB.mk (fun h => ?_) (fun h => ?_)
  · have hk' : k < w.length := by simpa using h
    clear h
    have e0 : (0 : Int) ≤ (k : Int) := Int.natCast_nonneg k
    have hps := pkTo_succ (sc := sc) (p := p) hk'
    have hin := hw k
    have hg := getD_snd w k hk'
    obtain ⟨c, hcc⟩ : ∃ c, w.getD k Snd.zero = c := ⟨_, rfl⟩
    rw [hcc] at hin hps hg
    obtain ⟨b, hb⟩ : ∃ b, pkTo sc p w k = b := ⟨_, rfl⟩
    rw [hb] at hps ⊢
    cases b with
    | true =>
      simp only [wrap_nat (k := k) (by omega), hadd, hc, hc3, bne_self_eq_false, List.length_map, word, nums, nats, zv, nv, bv, sv, beq_self_eq_true, VL, VB, BEq.rfl, V1, V2, V3, V4, V5, V6, V7, V8, V9, V10, V11, V12, V13, VE, Nat.reduceBEq, Nat.reduceAdd, Nat.reduceSub, Nat.reduceMul, Nat.reduceLeDiff, Nat.reduceLT, Nat.reduceEqDiff, Int.reduceBEq, Int.reduceBNe, Int.reduceLT, Int.reduceLE, Int.reduceAdd, Int.reduceSub, Int.reduceMul, kAgg, scD, List.all_cons, List.all_nil]
      refine ⟨k + 1, Enter.mk [] [] [] ?_, by omega, by show w.length - (k + 1) < w.length - k; omega⟩
      simp only [hps, Bool.true_or, hadd, hc, hc3, bne_self_eq_false, List.length_map, word, nums, nats, zv, nv, bv, sv, beq_self_eq_true, VL, VB, BEq.rfl, V1, V2, V3, V4, V5, V6, V7, V8, V9, V10, V11, V12, V13, VE, Nat.reduceBEq, Nat.reduceAdd, Nat.reduceSub, Nat.reduceMul, Nat.reduceLeDiff, Nat.reduceLT, Nat.reduceEqDiff, Int.reduceBEq, Int.reduceBNe, Int.reduceLT, Int.reduceLE, Int.reduceAdd, Int.reduceSub, Int.reduceMul, kAgg, scD, List.all_cons, List.all_nil]
    | false =>
      have ho := Sonority_ok sc p c hsc hin
      rw [snd_def] at ho
      simp only [e0, hk', hg, snd_def, hadd, hc, hc3, bne_self_eq_false, List.length_map, word, nums, nats, zv, nv, bv, sv, beq_self_eq_true, VL, VB, BEq.rfl, V1, V2, V3, V4, V5, V6, V7, V8, V9, V10, V11, V12, V13, VE, Nat.reduceBEq, Nat.reduceAdd, Nat.reduceSub, Nat.reduceMul, Nat.reduceLeDiff, Nat.reduceLT, Nat.reduceEqDiff, Int.reduceBEq, Int.reduceBNe, Int.reduceLT, Int.reduceLE, Int.reduceAdd, Int.reduceSub, Int.reduceMul, kAgg, scD, List.all_cons, List.all_nil]
      refine CallX.mk ho rfl ?_
      rw [peakB] at hps
      simp only [wrap_nat (k := k) (by omega), hadd, hc, hc3, bne_self_eq_false, List.length_map, word, nums, nats, zv, nv, bv, sv, beq_self_eq_true, VL, VB, BEq.rfl, V1, V2, V3, V4, V5, V6, V7, V8, V9, V10, V11, V12, V13, VE, Nat.reduceBEq, Nat.reduceAdd, Nat.reduceSub, Nat.reduceMul, Nat.reduceLeDiff, Nat.reduceLT, Nat.reduceEqDiff, Int.reduceBEq, Int.reduceBNe, Int.reduceLT, Int.reduceLE, Int.reduceAdd, Int.reduceSub, Int.reduceMul, kAgg, scD, List.all_cons, List.all_nil]
      refine ⟨k + 1, Enter.mk [] [] [] ?_, by omega, by show w.length - (k + 1) < w.length - k; omega⟩
      simp only [hps, Bool.false_or, hadd, hc, hc3, bne_self_eq_false, List.length_map, word, nums, nats, zv, nv, bv, sv, beq_self_eq_true, VL, VB, BEq.rfl, V1, V2, V3, V4, V5, V6, V7, V8, V9, V10, V11, V12, V13, VE, Nat.reduceBEq, Nat.reduceAdd, Nat.reduceSub, Nat.reduceMul, Nat.reduceLeDiff, Nat.reduceLT, Nat.reduceEqDiff, Int.reduceBEq, Int.reduceBNe, Int.reduceLT, Int.reduceLE, Int.reduceAdd, Int.reduceSub, Int.reduceMul, kAgg, scD, List.all_cons, List.all_nil]
  have hk' : k = w.length := by
    have : ¬ k < w.length := by simpa using h
    omega
  subst hk'
  simp only [h, hadd, hc, hc3, bne_self_eq_false, List.length_map, word, nums, nats, zv, nv, bv, sv, beq_self_eq_true, VL, VB, BEq.rfl, V1, V2, V3, V4, V5, V6, V7, V8, V9, V10, V11, V12, V13, VE, Nat.reduceBEq, Nat.reduceAdd, Nat.reduceSub, Nat.reduceMul, Nat.reduceLeDiff, Nat.reduceLT, Nat.reduceEqDiff, Int.reduceBEq, Int.reduceBNe, Int.reduceLT, Int.reduceLE, Int.reduceAdd, Int.reduceSub, Int.reduceMul, kAgg, scD, List.all_cons, List.all_nil]
  refine CallX.mk (Rhyme_ok sc p w w hsc hw hw) rfl ?_
  simp only [hww, hown, hadd, hc, hc3, bne_self_eq_false, List.length_map, word, nums, nats, zv, nv, bv, sv, beq_self_eq_true, VL, VB, BEq.rfl, V1, V2, V3, V4, V5, V6, V7, V8, V9, V10, V11, V12, V13, VE, Nat.reduceBEq, Nat.reduceAdd, Nat.reduceSub, Nat.reduceMul, Nat.reduceLeDiff, Nat.reduceLT, Nat.reduceEqDiff, Int.reduceBEq, Int.reduceBNe, Int.reduceLT, Int.reduceLE, Int.reduceAdd, Int.reduceSub, Int.reduceMul, kAgg, scD, List.all_cons, List.all_nil]
  refine guardB.mk (fun h => ?_) (fun h => ?_)
  · simp only [h, hadd, hc, hc3, bne_self_eq_false, List.length_map, word, nums, nats, zv, nv, bv, sv, beq_self_eq_true, VL, VB, BEq.rfl, V1, V2, V3, V4, V5, V6, V7, V8, V9, V10, V11, V12, V13, VE, Nat.reduceBEq, Nat.reduceAdd, Nat.reduceSub, Nat.reduceMul, Nat.reduceLeDiff, Nat.reduceLT, Nat.reduceEqDiff, Int.reduceBEq, Int.reduceBNe, Int.reduceLT, Int.reduceLE, Int.reduceAdd, Int.reduceSub, Int.reduceMul, kAgg, scD, List.all_cons, List.all_nil]
    refine CallX.mk works_ok rfl ?_
    simp only [hadd, hc, hc3, bne_self_eq_false, List.length_map, word, nums, nats, zv, nv, bv, sv, beq_self_eq_true, VL, VB, BEq.rfl, V1, V2, V3, V4, V5, V6, V7, V8, V9, V10, V11, V12, V13, VE, Nat.reduceBEq, Nat.reduceAdd, Nat.reduceSub, Nat.reduceMul, Nat.reduceLeDiff, Nat.reduceLT, Nat.reduceEqDiff, Int.reduceBEq, Int.reduceBNe, Int.reduceLT, Int.reduceLE, Int.reduceAdd, Int.reduceSub, Int.reduceMul, kAgg, scD, List.all_cons, List.all_nil]
  · have hl32 : v.length + w.length ≤ 32 := by
      have : ¬ (32 : Int) < ((v.length + w.length : Nat) : Int) := by simpa using h
      omega
    have hlong : checkE sc p [w, v ++ w] = 0 := checkE_iff.2 ⟨hiff.1, hiff.2.2, wordE_iff.2 ⟨by rw [List.length_append]; exact hl32, by rw [List.all_append, hva, hwa]; rfl⟩⟩
    have hlr : rhymeB sc p w (v ++ w) = pkTo sc p w w.length := by
      rw [Bool.eq_iff_iff, rhymeB, decide_eq_true_eq, ← rhymeL_peak hr]
      exact ⟨fun h => h.2.1, fun h => ⟨hlong, h, (rhymeL_app h).symm⟩⟩
    have ho := Rhyme_ok sc p w (v ++ w) hsc hw hvw
    rw [hlong, hlr, show word (v ++ w) = .sl (v.map Snd.enc ++ w.map Snd.enc) from by rw [word, List.map_append]] at ho
    simp only [h, hadd, hc, hc3, bne_self_eq_false, List.length_map, word, nums, nats, zv, nv, bv, sv, beq_self_eq_true, VL, VB, BEq.rfl, V1, V2, V3, V4, V5, V6, V7, V8, V9, V10, V11, V12, V13, VE, Nat.reduceBEq, Nat.reduceAdd, Nat.reduceSub, Nat.reduceMul, Nat.reduceLeDiff, Nat.reduceLT, Nat.reduceEqDiff, Int.reduceBEq, Int.reduceBNe, Int.reduceLT, Int.reduceLE, Int.reduceAdd, Int.reduceSub, Int.reduceMul, kAgg, scD, List.all_cons, List.all_nil]
    refine ⟨⟨by omega, allLen_snd v⟩, ⟨by omega, allLen_snd w⟩, ?_⟩
    refine CallX.mk ho rfl ?_
    simp only [hadd, hc, hc3, bne_self_eq_false, List.length_map, word, nums, nats, zv, nv, bv, sv, beq_self_eq_true, VL, VB, BEq.rfl, V1, V2, V3, V4, V5, V6, V7, V8, V9, V10, V11, V12, V13, VE, Nat.reduceBEq, Nat.reduceAdd, Nat.reduceSub, Nat.reduceMul, Nat.reduceLeDiff, Nat.reduceLT, Nat.reduceEqDiff, Int.reduceBEq, Int.reduceBNe, Int.reduceLT, Int.reduceLE, Int.reduceAdd, Int.reduceSub, Int.reduceMul, kAgg, scD, List.all_cons, List.all_nil]
    refine CallX.mk works_ok rfl ?_
    simp only [hadd, hc, hc3, bne_self_eq_false, List.length_map, word, nums, nats, zv, nv, bv, sv, beq_self_eq_true, VL, VB, BEq.rfl, V1, V2, V3, V4, V5, V6, V7, V8, V9, V10, V11, V12, V13, VE, Nat.reduceBEq, Nat.reduceAdd, Nat.reduceSub, Nat.reduceMul, Nat.reduceLeDiff, Nat.reduceLT, Nat.reduceEqDiff, Int.reduceBEq, Int.reduceBNe, Int.reduceLT, Int.reduceLE, Int.reduceAdd, Int.reduceSub, Int.reduceMul, kAgg, scD, List.all_cons, List.all_nil]
end Go.Cp
namespace Go.Proofs.Ytmiieofmhncfbaa
open Go Go.Proofs Go.RowKit Go.ChangeShapes Go.WideShapes Go.ChangeAt Go.Vx Go.Cp

theorem syllSame_lifted (os : Os) (started : os.Started) (H : Type) (enc : TypeId × Value → H) :
    ReturnsInHanded {} Try.checked os 12 .any (Rows.syllSameSpec.pre6 enc Try.prog Try.f12 Rows.syllSameRow.domain false) (Rows.syllSameSpec.post enc Try.prog Try.f12 false true false false) := by
  refine law_lifted (m := 8) (tb := 4) os started H enc own laid (by kernel_rfl) Try.func12 rfl Try.underlying4 rfl ?_ (by kernel_rfl) (by kernel_rfl)
    (ChangeSpec.witness6 (enc := enc) (C := Try.checked) false ⟨#[], #[.agg #[.slice none 0 0, .int .i64 0], .slice none 0 0, .slice none 0 0], []⟩ 8 (by kernel_rfl) (by kernel_rfl) (by kernel_rfl) (by kernel_rfl)) ?_
  · rw [Try.params12]
    intro ds hd
    match ds, hd with
    | [d1, d2, d3], _ => exact ⟨rfl, rfl, rfl⟩
  · rw [Try.params12]
    intro dss h
    obtain ⟨x1, x2, x3, rfl, h1, h2, h3⟩ := typedL3 h
    obtain ⟨sc, p, rfl, hsc⟩ := typed_rule (m := 4) h1
    obtain ⟨v, rfl, hv⟩ := typed_word (m := 5) h2
    obtain ⟨w, rfl, hw⟩ := typed_word (m := 5) h3
    simp only [argsAV, argAV, Try.underlying22, Try.underlying24]
    exact same_law sc p v w hsc hv hw

theorem syllSame_holds : Rows.SyllSameSaid :=
  OpenClaim.holds_of_wide 12 Try.f12 rfl rfl rfl rfl rfl rfl rfl ⟨rfl, rfl, rfl, rfl, rfl⟩ rfl rfl rfl rfl rfl (by kernel_rfl) Try.func12 (by kernel_rfl)
    (of_decide_eq_true (by kernel_rfl)) (by unfold Func.isWrapper; first | (rw [if_pos (by decide +kernel)]; kernel_rfl) | (rw [if_neg (by decide +kernel)]; exact ⟨rfl, rfl⟩))
    (fun os started H enc _ => syllSame_lifted os started H enc)
#print axioms syllSame_holds

end Go.Proofs.Ytmiieofmhncfbaa
