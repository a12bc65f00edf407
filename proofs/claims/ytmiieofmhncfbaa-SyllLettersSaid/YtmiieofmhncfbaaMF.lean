/-
  Syll: the sonorities of a word, peaks, where it rises; both checks of arguments. Conditions: none.
  Syll: the program's check of arguments; the split of a word and the reference's Split. Conditions: none.
  Syll: the reference's heavy syllables, stress. Conditions: none.
  Syll: equal words, the rhyme. Conditions: none.
-/
import Derived.Test.YtmiieofmhncfbaaME
import Derived.Test.YtmiieofmhncfbaaMC

section
set_option linter.unusedVariables false
set_option linter.unusedSimpArgs false
set_option maxHeartbeats 4000000
set_option maxRecDepth 10000
namespace Go.Cp
open Go Go.Proofs Go.Vx

theorem allLen_nat (xs : List Nat) : AllLen 1 (xs.map nat) := by
  intro y hy
  obtain ⟨n, _, rfl⟩ := List.mem_map.1 hy
  rfl
def lev (sc w : List Snd) : List Nat := w.map (levN sc)
theorem lev_len (sc w : List Snd) : (lev sc w).length = w.length := by simp [lev]
theorem lev_at {sc w : List Snd} {k : Nat} (h : k < w.length) : (lev sc w).getD k 0 = levN sc (w.getD k Snd.zero) := by
  simp [lev, List.getD, h]
theorem lev_take {sc w : List Snd} {k : Nat} (h : k < w.length) : ((lev sc w).take (k + 1)).map nat = ((lev sc w).take k).map nat ++ [nat (levN sc (w.getD k Snd.zero))] := by
  rw [List.take_add_one, List.getElem?_eq_getElem (by rw [lev_len]; exact h), List.map_append]
  simp [lev, List.getD, h]
theorem levels_ok (sc : List Snd) (p : Int) (w : List Snd) (hsc : AllIn sc) (hw : AllIn w) (hn : sc.length ≤ 12) (hl : w.length ≤ 32) : Ok Try.prog E 34 [.ag (ruleD sc p), .c (word w)] (.fr 3 ((lev sc w).map nat)) := by
  refine ok_of_vc (L := []) (ts := [4]) envOK mixed Try.func34 rfl (by kernel_rfl) rfl (by kernel_rfl) rfl fun hl => ?_
  simp only [Try.f34, word, nums, nats, zv, nv, bv, sv, VL, VB, BEq.rfl, V1, V2, V3, V4, V5, V6, V7, V8, V9, V10, V11, V12, V13, VE, Nat.reduceBEq, Nat.reduceAdd, Nat.reduceSub, Nat.reduceMul, Nat.reduceLeDiff, Nat.reduceLT, Nat.reduceEqDiff, Int.reduceBEq, Int.reduceBNe, Int.reduceLT, Int.reduceLE, Int.reduceAdd, Int.reduceSub, Int.reduceMul, kAgg, scD, List.all_cons, List.all_nil]
  refine LoopVC.mk (Y := Nat) (fun k => k ≤ w.length) (fun k => ⟨[(2, .bp 2 0), (5, .osl 1000 0), (8, .c (word w)), (9, nv w.length), (10, nv k)], [(2, .cells [.c (word sc), zv p]), (1000, .arr 3 0 (((lev sc w).take k).map nat))]⟩) (fun k => w.length - k) ⟨0, Enter.mk [(5, (1000, 3))] [] [] ?_, by omega⟩ ?_
  · simp only [word, nums, nats, zv, nv, bv, sv, VL, VB, BEq.rfl, V1, V2, V3, V4, V5, V6, V7, V8, V9, V10, V11, V12, V13, VE, Nat.reduceBEq, Nat.reduceAdd, Nat.reduceSub, Nat.reduceMul, Nat.reduceLeDiff, Nat.reduceLT, Nat.reduceEqDiff, Int.reduceBEq, Int.reduceBNe, Int.reduceLT, Int.reduceLE, Int.reduceAdd, Int.reduceSub, Int.reduceMul, kAgg, scD, List.all_cons, List.all_nil]
    exact ⟨rfl, rfl⟩
  intro k hk
  simp only [lt_nat, word, nums, nats, zv, nv, bv, sv, VL, VB, BEq.rfl, V1, V2, V3, V4, V5, V6, V7, V8, V9, V10, V11, V12, V13, VE, Nat.reduceBEq, Nat.reduceAdd, Nat.reduceSub, Nat.reduceMul, Nat.reduceLeDiff, Nat.reduceLT, Nat.reduceEqDiff, Int.reduceBEq, Int.reduceBNe, Int.reduceLT, Int.reduceLE, Int.reduceAdd, Int.reduceSub, Int.reduceMul, kAgg, scD, List.all_cons, List.all_nil]
  refine guardB.mk (fun h => ?_) (fun h => ?_)
  · have hk' : k < w.length := by simpa using h
    clear h
    have hin := hw k
    have htk := lev_take (sc := sc) hk'
    have htl : (((lev sc w).take k).length) = k := by rw [List.length_take, lev_len]; omega
    obtain ⟨c, hc⟩ : ∃ c, w.getD k Snd.zero = c := ⟨_, rfl⟩
    rw [hc] at hin htk
    have hlv := level_ok sc p c hsc hin hn
    rw [snd_def] at hlv
    simp only [getD_snd w k hk', hc, snd_def, word, nums, nats, zv, nv, bv, sv, VL, VB, BEq.rfl, V1, V2, V3, V4, V5, V6, V7, V8, V9, V10, V11, V12, V13, VE, Nat.reduceBEq, Nat.reduceAdd, Nat.reduceSub, Nat.reduceMul, Nat.reduceLeDiff, Nat.reduceLT, Nat.reduceEqDiff, Int.reduceBEq, Int.reduceBNe, Int.reduceLT, Int.reduceLE, Int.reduceAdd, Int.reduceSub, Int.reduceMul, kAgg, scD, List.all_cons, List.all_nil]
    refine ⟨⟨Int.natCast_nonneg k, hk'⟩, ?_⟩
    refine CallX.mk hlv rfl ?_
    simp only [htl, wrap_nat (k := k) (by omega), word, nums, nats, zv, nv, bv, sv, VL, VB, BEq.rfl, V1, V2, V3, V4, V5, V6, V7, V8, V9, V10, V11, V12, V13, VE, Nat.reduceBEq, Nat.reduceAdd, Nat.reduceSub, Nat.reduceMul, Nat.reduceLeDiff, Nat.reduceLT, Nat.reduceEqDiff, Int.reduceBEq, Int.reduceBNe, Int.reduceLT, Int.reduceLE, Int.reduceAdd, Int.reduceSub, Int.reduceMul, kAgg, scD, List.all_cons, List.all_nil]
    refine ⟨⟨by omega, allLen_nat [levN sc c]⟩, k + 1, Enter.id ?_, by omega, by show w.length - (k + 1) < w.length - k; omega⟩
    simp only [htk, nat_def, word, nums, nats, zv, nv, bv, sv, VL, VB, BEq.rfl, V1, V2, V3, V4, V5, V6, V7, V8, V9, V10, V11, V12, V13, VE, Nat.reduceBEq, Nat.reduceAdd, Nat.reduceSub, Nat.reduceMul, Nat.reduceLeDiff, Nat.reduceLT, Nat.reduceEqDiff, Int.reduceBEq, Int.reduceBNe, Int.reduceLT, Int.reduceLE, Int.reduceAdd, Int.reduceSub, Int.reduceMul, kAgg, scD, List.all_cons, List.all_nil]
  · have hk' : k = w.length := by
      have : ¬ k < w.length := by simpa using h
      omega
    have : (lev sc w).take k = lev sc w := by rw [hk', ← lev_len sc w, List.take_length]
    simp only [this, word, nums, nats, zv, nv, bv, sv, VL, VB, BEq.rfl, V1, V2, V3, V4, V5, V6, V7, V8, V9, V10, V11, V12, V13, VE, Nat.reduceBEq, Nat.reduceAdd, Nat.reduceSub, Nat.reduceMul, Nat.reduceLeDiff, Nat.reduceLT, Nat.reduceEqDiff, Int.reduceBEq, Int.reduceBNe, Int.reduceLT, Int.reduceLE, Int.reduceAdd, Int.reduceSub, Int.reduceMul, kAgg, scD, List.all_cons, List.all_nil]

theorem Sonority_ok (sc : List Snd) (p : Int) (s : Snd) (hsc : AllIn sc) (hs : s.In) : Ok Try.prog E 23 [.ag (ruleD sc p), .ag s.enc] (nv (sonN sc p s)) := by
  refine ok_of_vc (L := []) (ts := [4]) envOK mixed Try.func23 rfl (by kernel_rfl) rfl (by kernel_rfl) rfl fun hl => ?_
  simp only [Try.f23, snd_def, word, nums, nats, zv, nv, bv, sv, VL, VB, BEq.rfl, V1, V2, V3, V4, V5, V6, V7, V8, V9, V10, V11, V12, V13, VE, Nat.reduceBEq, Nat.reduceAdd, Nat.reduceSub, Nat.reduceMul, Nat.reduceLeDiff, Nat.reduceLT, Nat.reduceEqDiff, Int.reduceBEq, Int.reduceBNe, Int.reduceLT, Int.reduceLE, Int.reduceAdd, Int.reduceSub, Int.reduceMul, kAgg, scD, List.all_cons, List.all_nil]
  refine CallX.mk (Check_ok sc p hsc) rfl ?_
  cases hr : okR sc p with
  | false =>
    simp only [ruleE, sonN, hr, Bool.false_eq_true, if_false, word, nums, nats, zv, nv, bv, sv, VL, VB, BEq.rfl, V1, V2, V3, V4, V5, V6, V7, V8, V9, V10, V11, V12, V13, VE, Nat.reduceBEq, Nat.reduceAdd, Nat.reduceSub, Nat.reduceMul, Nat.reduceLeDiff, Nat.reduceLT, Nat.reduceEqDiff, Int.reduceBEq, Int.reduceBNe, Int.reduceLT, Int.reduceLE, Int.reduceAdd, Int.reduceSub, Int.reduceMul, kAgg, scD, List.all_cons, List.all_nil]
    rfl
  | true =>
    have hn : sc.length ≤ 12 := by
      simp only [okR, Bool.and_eq_true, decide_eq_true_eq] at hr
      exact hr.1
    have hlv := level_ok sc p s hsc hs hn
    rw [snd_def] at hlv
    simp only [ruleE, sonN, hr, if_true, word, nums, nats, zv, nv, bv, sv, VL, VB, BEq.rfl, V1, V2, V3, V4, V5, V6, V7, V8, V9, V10, V11, V12, V13, VE, Nat.reduceBEq, Nat.reduceAdd, Nat.reduceSub, Nat.reduceMul, Nat.reduceLeDiff, Nat.reduceLT, Nat.reduceEqDiff, Int.reduceBEq, Int.reduceBNe, Int.reduceLT, Int.reduceLE, Int.reduceAdd, Int.reduceSub, Int.reduceMul, kAgg, scD, List.all_cons, List.all_nil]
    refine CallX.mk hlv rfl ?_
    simp only [word, nums, nats, zv, nv, bv, sv, VL, VB, BEq.rfl, V1, V2, V3, V4, V5, V6, V7, V8, V9, V10, V11, V12, V13, VE, Nat.reduceBEq, Nat.reduceAdd, Nat.reduceSub, Nat.reduceMul, Nat.reduceLeDiff, Nat.reduceLT, Nat.reduceEqDiff, Int.reduceBEq, Int.reduceBNe, Int.reduceLT, Int.reduceLE, Int.reduceAdd, Int.reduceSub, Int.reduceMul, kAgg, scD, List.all_cons, List.all_nil]
theorem rSon_ok (sc : List Snd) (p : Int) (s : Snd) (hsc : AllIn sc) (hs : s.In) : Ok Try.prog E 24 [.ag (ruleD sc p), .ag s.enc] (nv (sonN sc p s)) := by
  refine ok_of_vc (L := []) (ts := [4]) envOK mixed Try.func24 rfl (by kernel_rfl) rfl (by kernel_rfl) rfl fun hl => ?_
  simp only [Try.f24, snd_def, word, nums, nats, zv, nv, bv, sv, VL, VB, BEq.rfl, V1, V2, V3, V4, V5, V6, V7, V8, V9, V10, V11, V12, V13, VE, Nat.reduceBEq, Nat.reduceAdd, Nat.reduceSub, Nat.reduceMul, Nat.reduceLeDiff, Nat.reduceLT, Nat.reduceEqDiff, Int.reduceBEq, Int.reduceBNe, Int.reduceLT, Int.reduceLE, Int.reduceAdd, Int.reduceSub, Int.reduceMul, kAgg, scD, List.all_cons, List.all_nil]
  refine CallX.mk (rCheck_ok sc p hsc) rfl ?_
  cases hr : okR sc p with
  | false =>
    simp only [ruleE, sonN, hr, Bool.false_eq_true, if_false, word, nums, nats, zv, nv, bv, sv, VL, VB, BEq.rfl, V1, V2, V3, V4, V5, V6, V7, V8, V9, V10, V11, V12, V13, VE, Nat.reduceBEq, Nat.reduceAdd, Nat.reduceSub, Nat.reduceMul, Nat.reduceLeDiff, Nat.reduceLT, Nat.reduceEqDiff, Int.reduceBEq, Int.reduceBNe, Int.reduceLT, Int.reduceLE, Int.reduceAdd, Int.reduceSub, Int.reduceMul, kAgg, scD, List.all_cons, List.all_nil]
    rfl
  | true =>
    have hn : sc.length ≤ 12 := by
      simp only [okR, Bool.and_eq_true, decide_eq_true_eq] at hr
      exact hr.1
    simp only [ruleE, sonN, hr, if_true, levN, word, nums, nats, zv, nv, bv, sv, VL, VB, BEq.rfl, V1, V2, V3, V4, V5, V6, V7, V8, V9, V10, V11, V12, V13, VE, Nat.reduceBEq, Nat.reduceAdd, Nat.reduceSub, Nat.reduceMul, Nat.reduceLeDiff, Nat.reduceLT, Nat.reduceEqDiff, Int.reduceBEq, Int.reduceBNe, Int.reduceLT, Int.reduceLE, Int.reduceAdd, Int.reduceSub, Int.reduceMul, kAgg, scD, List.all_cons, List.all_nil]
    refine LoopVC.mk (Y := Nat) (fun k => k ≤ sc.length) (fun k => ⟨[(2, .bp 2 0), (3, .bp 3 0), (5, nv (levTo sc s k)), (6, nv k)], [(2, .cells [.c (word sc), zv p]), (3, .cells [.c (.sc (.int .u32 s.plus)), .c (.sc (.int .u32 s.minus))])]⟩) (fun k => sc.length - k) ⟨0, Enter.id ?_, by omega⟩ ?_
    · simp only [levTo, word, nums, nats, zv, nv, bv, sv, VL, VB, BEq.rfl, V1, V2, V3, V4, V5, V6, V7, V8, V9, V10, V11, V12, V13, VE, Nat.reduceBEq, Nat.reduceAdd, Nat.reduceSub, Nat.reduceMul, Nat.reduceLeDiff, Nat.reduceLT, Nat.reduceEqDiff, Int.reduceBEq, Int.reduceBNe, Int.reduceLT, Int.reduceLE, Int.reduceAdd, Int.reduceSub, Int.reduceMul, kAgg, scD, List.all_cons, List.all_nil]
      exact ⟨rfl, rfl⟩
    intro k hk
    simp only [lt_nat, word, nums, nats, zv, nv, bv, sv, VL, VB, BEq.rfl, V1, V2, V3, V4, V5, V6, V7, V8, V9, V10, V11, V12, V13, VE, Nat.reduceBEq, Nat.reduceAdd, Nat.reduceSub, Nat.reduceMul, Nat.reduceLeDiff, Nat.reduceLT, Nat.reduceEqDiff, Int.reduceBEq, Int.reduceBNe, Int.reduceLT, Int.reduceLE, Int.reduceAdd, Int.reduceSub, Int.reduceMul, kAgg, scD, List.all_cons, List.all_nil]
    refine guardB.mk (fun h => ?_) (fun h => ?_)
    · have hk' : k < sc.length := by simpa using h
      clear h
      have hin := hsc k
      have hlt : levTo sc s (k + 1) = if satB s (sc.getD k Snd.zero) = true then k + 1 else levTo sc s k := rfl
      obtain ⟨c, hc⟩ : ∃ c, sc.getD k Snd.zero = c := ⟨_, rfl⟩
      rw [hc] at hin hlt
      have hsat := rsat_ok s c hs hin
      rw [snd_def, snd_def] at hsat
      simp only [getD_snd sc k hk', hc, snd_def, word, nums, nats, zv, nv, bv, sv, VL, VB, BEq.rfl, V1, V2, V3, V4, V5, V6, V7, V8, V9, V10, V11, V12, V13, VE, Nat.reduceBEq, Nat.reduceAdd, Nat.reduceSub, Nat.reduceMul, Nat.reduceLeDiff, Nat.reduceLT, Nat.reduceEqDiff, Int.reduceBEq, Int.reduceBNe, Int.reduceLT, Int.reduceLE, Int.reduceAdd, Int.reduceSub, Int.reduceMul, kAgg, scD, List.all_cons, List.all_nil]
      refine ⟨⟨Int.natCast_nonneg k, hk'⟩, ?_⟩
      refine CallX.mk hsat rfl ?_
      cases hb : satB s c with
      | true =>
        rw [hb, if_pos rfl] at hlt
        simp only [wrap_nat (k := k) (by omega), word, nums, nats, zv, nv, bv, sv, VL, VB, BEq.rfl, V1, V2, V3, V4, V5, V6, V7, V8, V9, V10, V11, V12, V13, VE, Nat.reduceBEq, Nat.reduceAdd, Nat.reduceSub, Nat.reduceMul, Nat.reduceLeDiff, Nat.reduceLT, Nat.reduceEqDiff, Int.reduceBEq, Int.reduceBNe, Int.reduceLT, Int.reduceLE, Int.reduceAdd, Int.reduceSub, Int.reduceMul, kAgg, scD, List.all_cons, List.all_nil]
        refine ⟨k + 1, Enter.id ?_, by omega, by show sc.length - (k + 1) < sc.length - k; omega⟩
        simp only [hlt, word, nums, nats, zv, nv, bv, sv, VL, VB, BEq.rfl, V1, V2, V3, V4, V5, V6, V7, V8, V9, V10, V11, V12, V13, VE, Nat.reduceBEq, Nat.reduceAdd, Nat.reduceSub, Nat.reduceMul, Nat.reduceLeDiff, Nat.reduceLT, Nat.reduceEqDiff, Int.reduceBEq, Int.reduceBNe, Int.reduceLT, Int.reduceLE, Int.reduceAdd, Int.reduceSub, Int.reduceMul, kAgg, scD, List.all_cons, List.all_nil]
      | false =>
        rw [hb, if_neg (by simp)] at hlt
        simp only [wrap_nat (k := k) (by omega), word, nums, nats, zv, nv, bv, sv, VL, VB, BEq.rfl, V1, V2, V3, V4, V5, V6, V7, V8, V9, V10, V11, V12, V13, VE, Nat.reduceBEq, Nat.reduceAdd, Nat.reduceSub, Nat.reduceMul, Nat.reduceLeDiff, Nat.reduceLT, Nat.reduceEqDiff, Int.reduceBEq, Int.reduceBNe, Int.reduceLT, Int.reduceLE, Int.reduceAdd, Int.reduceSub, Int.reduceMul, kAgg, scD, List.all_cons, List.all_nil]
        refine ⟨k + 1, Enter.id ?_, by omega, by show sc.length - (k + 1) < sc.length - k; omega⟩
        simp only [hlt, word, nums, nats, zv, nv, bv, sv, VL, VB, BEq.rfl, V1, V2, V3, V4, V5, V6, V7, V8, V9, V10, V11, V12, V13, VE, Nat.reduceBEq, Nat.reduceAdd, Nat.reduceSub, Nat.reduceMul, Nat.reduceLeDiff, Nat.reduceLT, Nat.reduceEqDiff, Int.reduceBEq, Int.reduceBNe, Int.reduceLT, Int.reduceLE, Int.reduceAdd, Int.reduceSub, Int.reduceMul, kAgg, scD, List.all_cons, List.all_nil]
    · have hk' : k = sc.length := by
        have : ¬ k < sc.length := by simpa using h
        omega
      simp only [hk', word, nums, nats, zv, nv, bv, sv, VL, VB, BEq.rfl, V1, V2, V3, V4, V5, V6, V7, V8, V9, V10, V11, V12, V13, VE, Nat.reduceBEq, Nat.reduceAdd, Nat.reduceSub, Nat.reduceMul, Nat.reduceLeDiff, Nat.reduceLT, Nat.reduceEqDiff, Int.reduceBEq, Int.reduceBNe, Int.reduceLT, Int.reduceLE, Int.reduceAdd, Int.reduceSub, Int.reduceMul, kAgg, scD, List.all_cons, List.all_nil]

def peakB (sc : List Snd) (p : Int) (s : Snd) : Bool := decide (p ≤ (sonN sc p s : Int))
theorem peak_ok (sc : List Snd) (p : Int) (s : Snd) (hsc : AllIn sc) (hs : s.In) : Ok Try.prog E 50 [.ag (ruleD sc p), .ag s.enc] (bv (peakB sc p s)) := by
  refine ok_of_vc (L := [(1, [(2, 3), (2, 4)])]) (ts := [4]) envOK mixed Try.func50 rfl (by kernel_rfl) rfl (by kernel_rfl) rfl fun hl => ?_
  have h := rSon_ok sc p s hsc hs
  rw [snd_def] at h
  simp only [Try.f50, snd_def, word, nums, nats, zv, nv, bv, sv, VL, VB, BEq.rfl, V1, V2, V3, V4, V5, V6, V7, V8, V9, V10, V11, V12, V13, VE, Nat.reduceBEq, Nat.reduceAdd, Nat.reduceSub, Nat.reduceMul, Nat.reduceLeDiff, Nat.reduceLT, Nat.reduceEqDiff, Int.reduceBEq, Int.reduceBNe, Int.reduceLT, Int.reduceLE, Int.reduceAdd, Int.reduceSub, Int.reduceMul, kAgg, scD, List.all_cons, List.all_nil]
  refine CallX.mk h rfl ?_
  simp only [peakB, word, nums, nats, zv, nv, bv, sv, VL, VB, BEq.rfl, V1, V2, V3, V4, V5, V6, V7, V8, V9, V10, V11, V12, V13, VE, Nat.reduceBEq, Nat.reduceAdd, Nat.reduceSub, Nat.reduceMul, Nat.reduceLeDiff, Nat.reduceLT, Nat.reduceEqDiff, Int.reduceBEq, Int.reduceBNe, Int.reduceLT, Int.reduceLE, Int.reduceAdd, Int.reduceSub, Int.reduceMul, kAgg, scD, List.all_cons, List.all_nil]
/-- the peaks among the first k sounds -/
def peaksTo (sc : List Snd) (p : Int) (w : List Snd) (k : Nat) : List Nat := (List.range k).filter fun i => peakB sc p (w.getD i Snd.zero)
theorem peaksTo_succ (sc : List Snd) (p : Int) (w : List Snd) (k : Nat) : peaksTo sc p w (k + 1) = if peakB sc p (w.getD k Snd.zero) = true then peaksTo sc p w k ++ [k] else peaksTo sc p w k := by
  rw [peaksTo, List.range_succ, List.filter_append]
  by_cases h : peakB sc p (w.getD k Snd.zero) = true
  · rw [if_pos h, List.filter_cons_of_pos (p := fun i => peakB sc p (w.getD i Snd.zero)) h]; rfl
  · rw [if_neg h, List.filter_cons_of_neg (p := fun i => peakB sc p (w.getD i Snd.zero)) h, List.filter_nil, List.append_nil]; rfl
theorem peaksTo_len (sc : List Snd) (p : Int) (w : List Snd) (k : Nat) : (peaksTo sc p w k).length ≤ k :=
  Nat.le_trans (List.length_filter_le _ _) (by simp)
theorem rpeaks_ok (sc : List Snd) (p : Int) (w : List Snd) (hsc : AllIn sc) (hw : AllIn w) (hl : w.length ≤ 32) : Ok Try.prog E 36 [.ag (ruleD sc p), .c (word w)] (.c (nats (peaksTo sc p w w.length))) := by
  refine ok_of_vc (L := []) (ts := [4]) envOK mixed Try.func36 rfl (by kernel_rfl) rfl (by kernel_rfl) rfl fun hl => ?_
  simp only [Try.f36, word, nums, nats, zv, nv, bv, sv, VL, VB, BEq.rfl, V1, V2, V3, V4, V5, V6, V7, V8, V9, V10, V11, V12, V13, VE, Nat.reduceBEq, Nat.reduceAdd, Nat.reduceSub, Nat.reduceMul, Nat.reduceLeDiff, Nat.reduceLT, Nat.reduceEqDiff, Int.reduceBEq, Int.reduceBNe, Int.reduceLT, Int.reduceLE, Int.reduceAdd, Int.reduceSub, Int.reduceMul, kAgg, scD, List.all_cons, List.all_nil]
  refine LoopVC.mk (Y := Nat) (fun k => k ≤ w.length) (fun k => ⟨[(1, .c (word w)), (2, .bp 2 0), (5, .osl 1000 0), (6, nv k)], [(2, .cells [.c (word sc), zv p]), (1000, .arr 3 0 ((peaksTo sc p w k).map nat))]⟩) (fun k => w.length - k) ⟨0, Enter.mk [(5, (1000, 3))] [] [] ?_, by omega⟩ ?_
  · simp only [word, nums, nats, zv, nv, bv, sv, VL, VB, BEq.rfl, V1, V2, V3, V4, V5, V6, V7, V8, V9, V10, V11, V12, V13, VE, Nat.reduceBEq, Nat.reduceAdd, Nat.reduceSub, Nat.reduceMul, Nat.reduceLeDiff, Nat.reduceLT, Nat.reduceEqDiff, Int.reduceBEq, Int.reduceBNe, Int.reduceLT, Int.reduceLE, Int.reduceAdd, Int.reduceSub, Int.reduceMul, kAgg, scD, List.all_cons, List.all_nil]
    exact ⟨rfl, ⟨rfl, rfl⟩, rfl⟩
  intro k hk
  simp only [lt_nat, word, nums, nats, zv, nv, bv, sv, VL, VB, BEq.rfl, V1, V2, V3, V4, V5, V6, V7, V8, V9, V10, V11, V12, V13, VE, Nat.reduceBEq, Nat.reduceAdd, Nat.reduceSub, Nat.reduceMul, Nat.reduceLeDiff, Nat.reduceLT, Nat.reduceEqDiff, Int.reduceBEq, Int.reduceBNe, Int.reduceLT, Int.reduceLE, Int.reduceAdd, Int.reduceSub, Int.reduceMul, kAgg, scD, List.all_cons, List.all_nil]
  refine guardB.mk (fun h => ?_) (fun h => ?_)
  · have hk' : k < w.length := by simpa using h
    clear h
    have hin := hw k
    have hps := peaksTo_succ sc p w k
    have hpl := peaksTo_len sc p w k
    obtain ⟨c, hc⟩ : ∃ c, w.getD k Snd.zero = c := ⟨_, rfl⟩
    rw [hc] at hin hps
    have hlv := peak_ok sc p c hsc hin
    rw [snd_def] at hlv
    simp only [getD_snd w k hk', hc, snd_def, word, nums, nats, zv, nv, bv, sv, VL, VB, BEq.rfl, V1, V2, V3, V4, V5, V6, V7, V8, V9, V10, V11, V12, V13, VE, Nat.reduceBEq, Nat.reduceAdd, Nat.reduceSub, Nat.reduceMul, Nat.reduceLeDiff, Nat.reduceLT, Nat.reduceEqDiff, Int.reduceBEq, Int.reduceBNe, Int.reduceLT, Int.reduceLE, Int.reduceAdd, Int.reduceSub, Int.reduceMul, kAgg, scD, List.all_cons, List.all_nil]
    refine ⟨⟨Int.natCast_nonneg k, hk'⟩, ?_⟩
    refine CallX.mk hlv rfl ?_
    cases hb : peakB sc p c with
    | true =>
      rw [hb, if_pos rfl] at hps
      simp only [wrap_nat (k := k) (by omega), word, nums, nats, zv, nv, bv, sv, VL, VB, BEq.rfl, V1, V2, V3, V4, V5, V6, V7, V8, V9, V10, V11, V12, V13, VE, Nat.reduceBEq, Nat.reduceAdd, Nat.reduceSub, Nat.reduceMul, Nat.reduceLeDiff, Nat.reduceLT, Nat.reduceEqDiff, Int.reduceBEq, Int.reduceBNe, Int.reduceLT, Int.reduceLE, Int.reduceAdd, Int.reduceSub, Int.reduceMul, kAgg, scD, List.all_cons, List.all_nil]
      refine ⟨⟨by omega, allLen_nat [k]⟩, k + 1, Enter.id ?_, by omega, by show w.length - (k + 1) < w.length - k; omega⟩
      simp only [hps, List.map_append, nat_def, word, nums, nats, zv, nv, bv, sv, VL, VB, BEq.rfl, V1, V2, V3, V4, V5, V6, V7, V8, V9, V10, V11, V12, V13, VE, Nat.reduceBEq, Nat.reduceAdd, Nat.reduceSub, Nat.reduceMul, Nat.reduceLeDiff, Nat.reduceLT, Nat.reduceEqDiff, Int.reduceBEq, Int.reduceBNe, Int.reduceLT, Int.reduceLE, Int.reduceAdd, Int.reduceSub, Int.reduceMul, kAgg, scD, List.all_cons, List.all_nil]
    | false =>
      rw [hb, if_neg (by simp)] at hps
      simp only [wrap_nat (k := k) (by omega), word, nums, nats, zv, nv, bv, sv, VL, VB, BEq.rfl, V1, V2, V3, V4, V5, V6, V7, V8, V9, V10, V11, V12, V13, VE, Nat.reduceBEq, Nat.reduceAdd, Nat.reduceSub, Nat.reduceMul, Nat.reduceLeDiff, Nat.reduceLT, Nat.reduceEqDiff, Int.reduceBEq, Int.reduceBNe, Int.reduceLT, Int.reduceLE, Int.reduceAdd, Int.reduceSub, Int.reduceMul, kAgg, scD, List.all_cons, List.all_nil]
      refine ⟨k + 1, Enter.id ?_, by omega, by show w.length - (k + 1) < w.length - k; omega⟩
      simp only [hps, word, nums, nats, zv, nv, bv, sv, VL, VB, BEq.rfl, V1, V2, V3, V4, V5, V6, V7, V8, V9, V10, V11, V12, V13, VE, Nat.reduceBEq, Nat.reduceAdd, Nat.reduceSub, Nat.reduceMul, Nat.reduceLeDiff, Nat.reduceLT, Nat.reduceEqDiff, Int.reduceBEq, Int.reduceBNe, Int.reduceLT, Int.reduceLE, Int.reduceAdd, Int.reduceSub, Int.reduceMul, kAgg, scD, List.all_cons, List.all_nil]
  · have hk' : k = w.length := by
      have : ¬ k < w.length := by simpa using h
      omega
    simp only [hk', word, nums, nats, zv, nv, bv, sv, VL, VB, BEq.rfl, V1, V2, V3, V4, V5, V6, V7, V8, V9, V10, V11, V12, V13, VE, Nat.reduceBEq, Nat.reduceAdd, Nat.reduceSub, Nat.reduceMul, Nat.reduceLeDiff, Nat.reduceLT, Nat.reduceEqDiff, Int.reduceBEq, Int.reduceBNe, Int.reduceLT, Int.reduceLE, Int.reduceAdd, Int.reduceSub, Int.reduceMul, kAgg, scD, List.all_cons, List.all_nil]

/-- it rises strictly from a to b - 1 -/
def stepB (sc : List Snd) (p : Int) (w : List Snd) (i : Nat) : Bool := decide (sonN sc p (w.getD (i - 1) Snd.zero) < sonN sc p (w.getD i Snd.zero))
def risesB (sc : List Snd) (p : Int) (w : List Snd) (a b : Nat) : Bool := (List.range b).all fun i => !decide (a < i) || stepB sc p w i
theorem rises_ok (sc : List Snd) (p : Int) (w : List Snd) (a b : Nat) (hsc : AllIn sc) (hw : AllIn w) (hl : w.length ≤ 32) (hb : b ≤ w.length) (hab : a < 1000) : Ok Try.prog E 37 [.ag (ruleD sc p), .c (word w), nv a, nv b] (bv (risesB sc p w a b)) := by
  refine ok_of_vc (L := [(4, [(5, 6), (5, 10), (5, 11)])]) (ts := [8]) envOK mixed Try.func37 rfl (by kernel_rfl) rfl (by kernel_rfl) rfl fun hl => ?_
  simp only [Try.f37, wrap_nat (k := a) (by omega), word, nums, nats, zv, nv, bv, sv, VL, VB, BEq.rfl, V1, V2, V3, V4, V5, V6, V7, V8, V9, V10, V11, V12, V13, VE, Nat.reduceBEq, Nat.reduceAdd, Nat.reduceSub, Nat.reduceMul, Nat.reduceLeDiff, Nat.reduceLT, Nat.reduceEqDiff, Int.reduceBEq, Int.reduceBNe, Int.reduceLT, Int.reduceLE, Int.reduceAdd, Int.reduceSub, Int.reduceMul, kAgg, scD, List.all_cons, List.all_nil]
  refine LoopVC.mk (Y := Nat) (fun k => a < k ∧ (k ≤ b ∨ k = a + 1) ∧ (List.range (min k b)).all (fun i => !decide (a < i) || stepB sc p w i) = true) (fun k => ⟨[(1, .c (word w)), (3, nv b), (4, .bp 4 0), (9, nv k)], [(4, .cells [.c (word sc), zv p])]⟩) (fun k => b - k) ⟨a + 1, Enter.id ?_, by omega, .inr rfl, ?_⟩ ?_
  · simp only [word, nums, nats, zv, nv, bv, sv, VL, VB, BEq.rfl, V1, V2, V3, V4, V5, V6, V7, V8, V9, V10, V11, V12, V13, VE, Nat.reduceBEq, Nat.reduceAdd, Nat.reduceSub, Nat.reduceMul, Nat.reduceLeDiff, Nat.reduceLT, Nat.reduceEqDiff, Int.reduceBEq, Int.reduceBNe, Int.reduceLT, Int.reduceLE, Int.reduceAdd, Int.reduceSub, Int.reduceMul, kAgg, scD, List.all_cons, List.all_nil]
  · rw [List.all_eq_true]
    intro i hi
    have hi : i < min (a + 1) b := by simpa using hi
    rw [decide_eq_false (by omega)]; rfl
  rintro k ⟨hk0, hk, hpre⟩
  simp only [lt_nat, word, nums, nats, zv, nv, bv, sv, VL, VB, BEq.rfl, V1, V2, V3, V4, V5, V6, V7, V8, V9, V10, V11, V12, V13, VE, Nat.reduceBEq, Nat.reduceAdd, Nat.reduceSub, Nat.reduceMul, Nat.reduceLeDiff, Nat.reduceLT, Nat.reduceEqDiff, Int.reduceBEq, Int.reduceBNe, Int.reduceLT, Int.reduceLE, Int.reduceAdd, Int.reduceSub, Int.reduceMul, kAgg, scD, List.all_cons, List.all_nil]
  refine guardB.mk (fun h => ?_) (fun h => ?_)
  · have hk' : k < b := by simpa using h
    clear h
    rw [Nat.min_eq_left (by omega)] at hpre
    have hin := hw k
    have hin2 := hw (k - 1)
    have hsb : stepB sc p w k = decide (sonN sc p (w.getD (k - 1) Snd.zero) < sonN sc p (w.getD k Snd.zero)) := rfl
    have hrs := all_range_succ (p := fun i => !decide (a < i) || stepB sc p w i) (k := k)
    have hrf := fun h => all_range_false (p := fun i => !decide (a < i) || stepB sc p w i) hk' h
    rw [hpre, Bool.true_and] at hrs
    simp only [decide_eq_true hk0, Bool.not_true, Bool.false_or] at hrs hrf
    obtain ⟨j, hj⟩ : ∃ j, k - 1 = j := ⟨_, rfl⟩
    rw [hj] at hin2 hsb
    have hwj : IntKind.i64.wrap ((k : Int) - 1) = (j : Int) := by rw [wrap_in (by omega) (by omega)]; omega
    obtain ⟨c, hc⟩ : ∃ c, w.getD k Snd.zero = c := ⟨_, rfl⟩
    obtain ⟨d, hd⟩ : ∃ d, w.getD j Snd.zero = d := ⟨_, rfl⟩
    rw [hc] at hin hsb
    rw [hd] at hin2 hsb
    have h1 := rSon_ok sc p c hsc hin
    have h2 := rSon_ok sc p d hsc hin2
    rw [snd_def] at h1 h2
    simp only [getD_snd w k (by omega), hc, snd_def, word, nums, nats, zv, nv, bv, sv, VL, VB, BEq.rfl, V1, V2, V3, V4, V5, V6, V7, V8, V9, V10, V11, V12, V13, VE, Nat.reduceBEq, Nat.reduceAdd, Nat.reduceSub, Nat.reduceMul, Nat.reduceLeDiff, Nat.reduceLT, Nat.reduceEqDiff, Int.reduceBEq, Int.reduceBNe, Int.reduceLT, Int.reduceLE, Int.reduceAdd, Int.reduceSub, Int.reduceMul, kAgg, scD, List.all_cons, List.all_nil]
    refine ⟨⟨Int.natCast_nonneg k, by omega⟩, ?_⟩
    refine CallX.mk h1 rfl ?_
    simp only [hwj, getD_snd w j (by omega), hd, snd_def, word, nums, nats, zv, nv, bv, sv, VL, VB, BEq.rfl, V1, V2, V3, V4, V5, V6, V7, V8, V9, V10, V11, V12, V13, VE, Nat.reduceBEq, Nat.reduceAdd, Nat.reduceSub, Nat.reduceMul, Nat.reduceLeDiff, Nat.reduceLT, Nat.reduceEqDiff, Int.reduceBEq, Int.reduceBNe, Int.reduceLT, Int.reduceLE, Int.reduceAdd, Int.reduceSub, Int.reduceMul, kAgg, scD, List.all_cons, List.all_nil]
    refine ⟨⟨Int.natCast_nonneg j, by omega⟩, ?_⟩
    refine CallX.mk h2 rfl ?_
    have e : decide ((sonN sc p c : Int) ≤ (sonN sc p d : Int)) = !stepB sc p w k := by
      rw [hsb, ← decide_not]; congr 1; exact propext ⟨fun h => by omega, fun h => by omega⟩
    simp only [e, word, nums, nats, zv, nv, bv, sv, VL, VB, BEq.rfl, V1, V2, V3, V4, V5, V6, V7, V8, V9, V10, V11, V12, V13, VE, Nat.reduceBEq, Nat.reduceAdd, Nat.reduceSub, Nat.reduceMul, Nat.reduceLeDiff, Nat.reduceLT, Nat.reduceEqDiff, Int.reduceBEq, Int.reduceBNe, Int.reduceLT, Int.reduceLE, Int.reduceAdd, Int.reduceSub, Int.reduceMul, kAgg, scD, List.all_cons, List.all_nil]
    cases hsx : stepB sc p w k with
    | false =>
      have := hrf hsx
      simp only [risesB, this, word, nums, nats, zv, nv, bv, sv, VL, VB, BEq.rfl, V1, V2, V3, V4, V5, V6, V7, V8, V9, V10, V11, V12, V13, VE, Nat.reduceBEq, Nat.reduceAdd, Nat.reduceSub, Nat.reduceMul, Nat.reduceLeDiff, Nat.reduceLT, Nat.reduceEqDiff, Int.reduceBEq, Int.reduceBNe, Int.reduceLT, Int.reduceLE, Int.reduceAdd, Int.reduceSub, Int.reduceMul, kAgg, scD, List.all_cons, List.all_nil]
    | true =>
      rw [hsx] at hrs
      simp only [wrap_nat (k := k) (by omega), word, nums, nats, zv, nv, bv, sv, VL, VB, BEq.rfl, V1, V2, V3, V4, V5, V6, V7, V8, V9, V10, V11, V12, V13, VE, Nat.reduceBEq, Nat.reduceAdd, Nat.reduceSub, Nat.reduceMul, Nat.reduceLeDiff, Nat.reduceLT, Nat.reduceEqDiff, Int.reduceBEq, Int.reduceBNe, Int.reduceLT, Int.reduceLE, Int.reduceAdd, Int.reduceSub, Int.reduceMul, kAgg, scD, List.all_cons, List.all_nil]
      refine ⟨k + 1, Enter.id ?_, ⟨by omega, .inl (by omega), by rw [Nat.min_eq_left (by omega)]; exact hrs⟩, by show b - (k + 1) < b - k; omega⟩
      simp only [word, nums, nats, zv, nv, bv, sv, VL, VB, BEq.rfl, V1, V2, V3, V4, V5, V6, V7, V8, V9, V10, V11, V12, V13, VE, Nat.reduceBEq, Nat.reduceAdd, Nat.reduceSub, Nat.reduceMul, Nat.reduceLeDiff, Nat.reduceLT, Nat.reduceEqDiff, Int.reduceBEq, Int.reduceBNe, Int.reduceLT, Int.reduceLE, Int.reduceAdd, Int.reduceSub, Int.reduceMul, kAgg, scD, List.all_cons, List.all_nil]
  · have hk' : ¬ k < b := by simpa using h
    rw [Nat.min_eq_right (by omega)] at hpre
    simp only [risesB, hpre, word, nums, nats, zv, nv, bv, sv, VL, VB, BEq.rfl, V1, V2, V3, V4, V5, V6, V7, V8, V9, V10, V11, V12, V13, VE, Nat.reduceBEq, Nat.reduceAdd, Nat.reduceSub, Nat.reduceMul, Nat.reduceLeDiff, Nat.reduceLT, Nat.reduceEqDiff, Int.reduceBEq, Int.reduceBNe, Int.reduceLT, Int.reduceLE, Int.reduceAdd, Int.reduceSub, Int.reduceMul, kAgg, scD, List.all_cons, List.all_nil]

/-! both checks -/
abbrev wordsD (ws : List (List Snd)) : D := .sl (ws.map fun w => [word w])
def firstE : List (List Snd) → Int
  | [] => 0
  | w :: r => if wordE w = 0 then firstE r else wordE w
def checkE (sc : List Snd) (p : Int) (ws : List (List Snd)) : Int := if ruleE sc p = 0 then firstE ws else ruleE sc p
theorem rcheck2_ok (sc : List Snd) (p : Int) (w : List Snd) (hsc : AllIn sc) (hw : AllIn w) : Ok Try.prog E 35 [.ag (ruleD sc p), .c (word w)] (zv (checkE sc p [w])) := by
  refine ok_of_vc (L := []) (ts := [4]) envOK mixed Try.func35 rfl (by kernel_rfl) rfl (by kernel_rfl) rfl fun hl => ?_
  simp only [Try.f35, checkE, firstE, word, nums, nats, zv, nv, bv, sv, VL, VB, BEq.rfl, V1, V2, V3, V4, V5, V6, V7, V8, V9, V10, V11, V12, V13, VE, Nat.reduceBEq, Nat.reduceAdd, Nat.reduceSub, Nat.reduceMul, Nat.reduceLeDiff, Nat.reduceLT, Nat.reduceEqDiff, Int.reduceBEq, Int.reduceBNe, Int.reduceLT, Int.reduceLE, Int.reduceAdd, Int.reduceSub, Int.reduceMul, kAgg, scD, List.all_cons, List.all_nil]
  refine CallX.mk (rCheck_ok sc p hsc) rfl ?_
  by_cases h : ruleE sc p = 0
  · simp only [h, if_pos, word, nums, nats, zv, nv, bv, sv, VL, VB, BEq.rfl, V1, V2, V3, V4, V5, V6, V7, V8, V9, V10, V11, V12, V13, VE, Nat.reduceBEq, Nat.reduceAdd, Nat.reduceSub, Nat.reduceMul, Nat.reduceLeDiff, Nat.reduceLT, Nat.reduceEqDiff, Int.reduceBEq, Int.reduceBNe, Int.reduceLT, Int.reduceLE, Int.reduceAdd, Int.reduceSub, Int.reduceMul, kAgg, scD, List.all_cons, List.all_nil]
    refine CallX.mk (rwcheck_ok w hw) rfl ?_
    simp only [word, nums, nats, zv, nv, bv, sv, VL, VB, BEq.rfl, V1, V2, V3, V4, V5, V6, V7, V8, V9, V10, V11, V12, V13, VE, Nat.reduceBEq, Nat.reduceAdd, Nat.reduceSub, Nat.reduceMul, Nat.reduceLeDiff, Nat.reduceLT, Nat.reduceEqDiff, Int.reduceBEq, Int.reduceBNe, Int.reduceLT, Int.reduceLE, Int.reduceAdd, Int.reduceSub, Int.reduceMul, kAgg, scD, List.all_cons, List.all_nil]
    by_cases h2 : wordE w = 0
    · simp only [h2, if_pos]
    · simp only [if_neg h2]
  · have h1 : (ruleE sc p != 0) = true := by simpa using h
    simp only [h1, if_neg h, word, nums, nats, zv, nv, bv, sv, VL, VB, BEq.rfl, V1, V2, V3, V4, V5, V6, V7, V8, V9, V10, V11, V12, V13, VE, Nat.reduceBEq, Nat.reduceAdd, Nat.reduceSub, Nat.reduceMul, Nat.reduceLeDiff, Nat.reduceLT, Nat.reduceEqDiff, Int.reduceBEq, Int.reduceBNe, Int.reduceLT, Int.reduceLE, Int.reduceAdd, Int.reduceSub, Int.reduceMul, kAgg, scD, List.all_cons, List.all_nil]

end Go.Cp
end

section
set_option linter.unusedVariables false
set_option linter.unusedSimpArgs false
set_option maxHeartbeats 4000000
set_option maxRecDepth 10000
namespace Go.Cp
open Go Go.Proofs Go.Vx

theorem getD_word (xs : List (List Snd)) (k : Nat) (h : k < xs.length) : (xs.map fun w => [word w]).getD k [] = [word (xs.getD k [])] := by
  simp [List.getD, List.getElem?_map, List.getElem?_eq_getElem h]
theorem firstE_step {ws : List (List Snd)} {k : Nat} (h : k < ws.length) : firstE (ws.drop k) = if wordE (ws.getD k []) = 0 then firstE (ws.drop (k + 1)) else wordE (ws.getD k []) := by
  rw [List.drop_eq_getElem_cons h, getD_of [] ws k h]; rfl
theorem check_ok (sc : List Snd) (p : Int) (ws : List (List Snd)) (hsc : AllIn sc) (hws : ∀ k, AllIn (ws.getD k [])) : Ok Try.prog E 31 [.ag (ruleD sc p), .c (wordsD ws)] (zv (checkE sc p ws)) := by
  refine ok_of_vc (L := []) (ts := [4]) envOK mixed Try.func31 rfl (by kernel_rfl) rfl (by kernel_rfl) rfl fun hl => ?_
  have hlen := len_of (hl _ (List.mem_cons_of_mem _ (List.mem_cons_self ..)))
  rw [List.length_map] at hlen
  simp only [Try.f31, checkE, wordsD, word, nums, nats, zv, nv, bv, sv, VL, VB, BEq.rfl, V1, V2, V3, V4, V5, V6, V7, V8, V9, V10, V11, V12, V13, VE, Nat.reduceBEq, Nat.reduceAdd, Nat.reduceSub, Nat.reduceMul, Nat.reduceLeDiff, Nat.reduceLT, Nat.reduceEqDiff, Int.reduceBEq, Int.reduceBNe, Int.reduceLT, Int.reduceLE, Int.reduceAdd, Int.reduceSub, Int.reduceMul, kAgg, scD, List.all_cons, List.all_nil]
  refine CallX.mk (Check_ok sc p hsc) rfl ?_
  by_cases h : ruleE sc p = 0
  · simp only [h, if_pos, word, nums, nats, zv, nv, bv, sv, VL, VB, BEq.rfl, V1, V2, V3, V4, V5, V6, V7, V8, V9, V10, V11, V12, V13, VE, Nat.reduceBEq, Nat.reduceAdd, Nat.reduceSub, Nat.reduceMul, Nat.reduceLeDiff, Nat.reduceLT, Nat.reduceEqDiff, Int.reduceBEq, Int.reduceBNe, Int.reduceLT, Int.reduceLE, Int.reduceAdd, Int.reduceSub, Int.reduceMul, kAgg, scD, List.all_cons, List.all_nil]
    refine LoopVC.mk (Y := Nat) (fun k => k ≤ ws.length ∧ firstE ws = firstE (ws.drop k)) (fun k => ⟨[(14, .c (.sl (ws.map fun w => [word w]))), (15, nv ws.length), (16, nv k)], []⟩) (fun k => ws.length - k) ⟨0, Enter.id ?_, by omega, rfl⟩ ?_
    · simp only [word, nums, nats, zv, nv, bv, sv, VL, VB, BEq.rfl, V1, V2, V3, V4, V5, V6, V7, V8, V9, V10, V11, V12, V13, VE, Nat.reduceBEq, Nat.reduceAdd, Nat.reduceSub, Nat.reduceMul, Nat.reduceLeDiff, Nat.reduceLT, Nat.reduceEqDiff, Int.reduceBEq, Int.reduceBNe, Int.reduceLT, Int.reduceLE, Int.reduceAdd, Int.reduceSub, Int.reduceMul, kAgg, scD, List.all_cons, List.all_nil]
      exact rfl
    rintro k ⟨hk, hpre⟩
    simp only [lt_nat, word, nums, nats, zv, nv, bv, sv, VL, VB, BEq.rfl, V1, V2, V3, V4, V5, V6, V7, V8, V9, V10, V11, V12, V13, VE, Nat.reduceBEq, Nat.reduceAdd, Nat.reduceSub, Nat.reduceMul, Nat.reduceLeDiff, Nat.reduceLT, Nat.reduceEqDiff, Int.reduceBEq, Int.reduceBNe, Int.reduceLT, Int.reduceLE, Int.reduceAdd, Int.reduceSub, Int.reduceMul, kAgg, scD, List.all_cons, List.all_nil]
    refine guardB.mk (fun h => ?_) (fun h => ?_)
    · have hk' : k < ws.length := by simpa using h
      clear h
      have hin := hws k
      rw [firstE_step hk'] at hpre
      obtain ⟨w, hw⟩ : ∃ w, ws.getD k [] = w := ⟨_, rfl⟩
      rw [hw] at hin hpre
      simp only [getD_word ws k hk', hw, word, nums, nats, zv, nv, bv, sv, VL, VB, BEq.rfl, V1, V2, V3, V4, V5, V6, V7, V8, V9, V10, V11, V12, V13, VE, Nat.reduceBEq, Nat.reduceAdd, Nat.reduceSub, Nat.reduceMul, Nat.reduceLeDiff, Nat.reduceLT, Nat.reduceEqDiff, Int.reduceBEq, Int.reduceBNe, Int.reduceLT, Int.reduceLE, Int.reduceAdd, Int.reduceSub, Int.reduceMul, kAgg, scD, List.all_cons, List.all_nil]
      refine ⟨⟨Int.natCast_nonneg k, hk'⟩, ?_⟩
      refine CallX.mk (wcheck_ok w hin) rfl ?_
      by_cases hc : wordE w = 0
      · rw [if_pos hc] at hpre
        simp only [hc, wrap_nat (k := k) (by omega), word, nums, nats, zv, nv, bv, sv, VL, VB, BEq.rfl, V1, V2, V3, V4, V5, V6, V7, V8, V9, V10, V11, V12, V13, VE, Nat.reduceBEq, Nat.reduceAdd, Nat.reduceSub, Nat.reduceMul, Nat.reduceLeDiff, Nat.reduceLT, Nat.reduceEqDiff, Int.reduceBEq, Int.reduceBNe, Int.reduceLT, Int.reduceLE, Int.reduceAdd, Int.reduceSub, Int.reduceMul, kAgg, scD, List.all_cons, List.all_nil]
        refine ⟨k + 1, Enter.id ?_, ⟨by omega, hpre⟩, by show ws.length - (k + 1) < ws.length - k; omega⟩
        simp only [word, nums, nats, zv, nv, bv, sv, VL, VB, BEq.rfl, V1, V2, V3, V4, V5, V6, V7, V8, V9, V10, V11, V12, V13, VE, Nat.reduceBEq, Nat.reduceAdd, Nat.reduceSub, Nat.reduceMul, Nat.reduceLeDiff, Nat.reduceLT, Nat.reduceEqDiff, Int.reduceBEq, Int.reduceBNe, Int.reduceLT, Int.reduceLE, Int.reduceAdd, Int.reduceSub, Int.reduceMul, kAgg, scD, List.all_cons, List.all_nil]
      · rw [if_neg hc] at hpre
        have h1 : (wordE w != 0) = true := by simpa using hc
        simp only [h1, hpre, word, nums, nats, zv, nv, bv, sv, VL, VB, BEq.rfl, V1, V2, V3, V4, V5, V6, V7, V8, V9, V10, V11, V12, V13, VE, Nat.reduceBEq, Nat.reduceAdd, Nat.reduceSub, Nat.reduceMul, Nat.reduceLeDiff, Nat.reduceLT, Nat.reduceEqDiff, Int.reduceBEq, Int.reduceBNe, Int.reduceLT, Int.reduceLE, Int.reduceAdd, Int.reduceSub, Int.reduceMul, kAgg, scD, List.all_cons, List.all_nil]
    · have hk' : k = ws.length := by
        have : ¬ k < ws.length := by simpa using h
        omega
      rw [hk', List.drop_length] at hpre
      simp only [hpre, firstE, word, nums, nats, zv, nv, bv, sv, VL, VB, BEq.rfl, V1, V2, V3, V4, V5, V6, V7, V8, V9, V10, V11, V12, V13, VE, Nat.reduceBEq, Nat.reduceAdd, Nat.reduceSub, Nat.reduceMul, Nat.reduceLeDiff, Nat.reduceLT, Nat.reduceEqDiff, Int.reduceBEq, Int.reduceBNe, Int.reduceLT, Int.reduceLE, Int.reduceAdd, Int.reduceSub, Int.reduceMul, kAgg, scD, List.all_cons, List.all_nil]
  · have h1 : (ruleE sc p != 0) = true := by simpa using h
    simp only [h1, if_neg h, word, nums, nats, zv, nv, bv, sv, VL, VB, BEq.rfl, V1, V2, V3, V4, V5, V6, V7, V8, V9, V10, V11, V12, V13, VE, Nat.reduceBEq, Nat.reduceAdd, Nat.reduceSub, Nat.reduceMul, Nat.reduceLeDiff, Nat.reduceLT, Nat.reduceEqDiff, Int.reduceBEq, Int.reduceBNe, Int.reduceLT, Int.reduceLE, Int.reduceAdd, Int.reduceSub, Int.reduceMul, kAgg, scD, List.all_cons, List.all_nil]

/-! the split -/
structure Syl where
  b : Nat
  a : Nat
  c : Nat
  e : Nat
  deriving DecidableEq
def Syl.enc (s : Syl) : List D := [.sc (.int .i64 s.b), .sc (.int .i64 s.a), .sc (.int .i64 s.c), .sc (.int .i64 s.e)]
def Syl.zero : Syl := ⟨0, 0, 0, 0⟩
abbrev syls (ss : List Syl) : D := .sl (ss.map Syl.enc)
theorem syl_def (s : Syl) : s.enc = [.sc (.int .i64 s.b), .sc (.int .i64 s.a), .sc (.int .i64 s.c), .sc (.int .i64 s.e)] := rfl
theorem getD_syl (xs : List Syl) (k : Nat) (h : k < xs.length) : (xs.map Syl.enc).getD k [] = (xs.getD k Syl.zero).enc := by
  simp [List.getD, List.getElem?_map, List.getElem?_eq_getElem h]
theorem allLen_syl (xs : List Syl) : AllLen 4 (xs.map Syl.enc) := by
  intro y hy
  obtain ⟨n, _, rfl⟩ := List.mem_map.1 hy
  rfl
/-- from e downwards: the place where the onset of the next syllable begins -/
def downE (lv : List Nat) (a : Nat) : Nat → Nat
  | 0 => 0
  | e + 1 => if e = a ∨ lv.getD (e + 1) 0 ≤ lv.getD e 0 then e + 1 else downE lv a e
theorem downE_le (lv : List Nat) (a : Nat) : ∀ n, downE lv a n ≤ n
  | 0 => Nat.le_refl _
  | e + 1 => by
    have := downE_le lv a e
    rw [downE]; split <;> omega
theorem downE_ge (lv : List Nat) (a : Nat) : ∀ n, a < n → a < downE lv a n
  | 0, h => absurd h (by omega)
  | e + 1, h => by
    rw [downE]; split
    · exact h
    · rename_i hc
      exact downE_ge lv a e (by
        have : e ≠ a := fun h => hc (.inl h)
        omega)
theorem downE_up (lv : List Nat) (a e : Nat) (he : a < e) : ∀ n, e ≤ n → (∀ i, e < i → i ≤ n → lv.getD (i - 1) 0 < lv.getD i 0) → downE lv a n ≤ e
  | 0, h, _ => by
    rw [downE]; omega
  | n + 1, h, hi => by
    by_cases hn : e = n + 1
    · rw [hn]; exact downE_le lv a (n + 1)
    · rw [downE, if_neg]
      · exact downE_up lv a e he n (by omega) fun i h1 h2 => hi i h1 (by omega)
      · rintro (h1 | h1)
        · omega
        · have := hi (n + 1) (by omega) (Nat.le_refl _)
          rw [Nat.add_sub_cancel] at this
          omega
theorem downE_down (lv : List Nat) (a e : Nat) (he : a < e) : ∀ n, downE lv a n ≤ e → ∀ i, e < i → i ≤ n → lv.getD (i - 1) 0 < lv.getD i 0
  | 0, h, i, h1, h2 => by omega
  | n + 1, h, i, h1, h2 => by
    rw [downE] at h
    split at h
    · omega
    · rename_i hc
      by_cases hi : i = n + 1
      · have : ¬ lv.getD (n + 1) 0 ≤ lv.getD n 0 := fun h => hc (.inr h)
        rw [hi, Nat.add_sub_cancel]; omega
      · exact downE_down lv a e he n h i h1 (by omega)
/-- the k-th syllable of a word of n sounds with the levels lv and the peaks ps -/
def begN (lv ps : List Nat) : Nat → Nat
  | 0 => 0
  | k + 1 => downE lv (ps.getD k 0) (ps.getD (k + 1) 0)
def sylK (lv ps : List Nat) (n k : Nat) : Syl := ⟨begN lv ps k, ps.getD k 0, ps.getD k 0 + 1, if k + 1 < ps.length then begN lv ps (k + 1) else n⟩
def sylsTo (lv ps : List Nat) (n k : Nat) : List Syl := (List.range k).map (sylK lv ps n)
theorem sylsTo_succ (lv ps : List Nat) (n k : Nat) : sylsTo lv ps n (k + 1) = sylsTo lv ps n k ++ [sylK lv ps n k] := by
  simp [sylsTo, List.range_succ]
theorem sylsTo_len (lv ps : List Nat) (n k : Nat) : (sylsTo lv ps n k).length = k := by simp [sylsTo]
/-- the peaks of levels -/
def peaksL (p : Int) (lv : List Nat) : List Nat := (List.range lv.length).filter fun i => decide (p ≤ (lv.getD i 0 : Int))
def splitL (p : Int) (lv : List Nat) : List Syl :=
  if (peaksL p lv).length = 0 then (if lv.length = 0 then [] else [⟨0, lv.length, lv.length, lv.length⟩]) else sylsTo lv (peaksL p lv) lv.length (peaksL p lv).length
def splitS (sc : List Snd) (p : Int) (w : List Snd) : List Syl := if checkE sc p [w] = 0 then splitL p (lev sc w) else []

theorem filter_between {P : Nat → Bool} {n k : Nat} (hk : k + 1 < ((List.range n).filter P).length) :
    ((List.range n).filter P).getD k 0 < ((List.range n).filter P).getD (k + 1) 0 ∧ ∀ i, ((List.range n).filter P).getD k 0 < i → i < ((List.range n).filter P).getD (k + 1) 0 → P i = false := by
  have hp : ((List.range n).filter P).Pairwise (· < ·) := (List.pairwise_lt_range).filter P
  have hmem : ∀ i, i ∈ (List.range n).filter P ↔ i < n ∧ P i = true := by simp
  revert hp hk hmem
  generalize (List.range n).filter P = ps
  intro hk hp hmem
  rw [getD_of 0 ps k (by omega), getD_of 0 ps (k + 1) hk]
  have hlt : ∀ i j (hi : i < ps.length) (hj : j < ps.length), i < j → ps[i] < ps[j] := fun i j hi hj h => List.pairwise_iff_getElem.1 hp i j hi hj h
  refine ⟨hlt k (k + 1) (by omega) hk (by omega), fun i h1 h2 => ?_⟩
  cases hP : P i with
  | false => rfl
  | true =>
    have hn : ps[k + 1] < n := ((hmem _).1 (List.getElem_mem _)).1
    obtain ⟨j, hj, hji⟩ := List.mem_iff_getElem.1 ((hmem i).2 ⟨by omega, hP⟩)
    rcases Nat.lt_trichotomy j k with h | h | h
    · have := hlt j k hj (by omega) h; omega
    · subst h; omega
    · rcases Nat.lt_trichotomy j (k + 1) with h3 | h3 | h3
      · omega
      · subst h3; omega
      · have := hlt (k + 1) j hk hj h3; omega
theorem filter_at {P : Nat → Bool} {n k : Nat} (hk : k < ((List.range n).filter P).length) : ((List.range n).filter P).getD k 0 < n ∧ P (((List.range n).filter P).getD k 0) = true := by
  rw [getD_of 0 _ k hk]
  have := List.getElem_mem hk
  rw [List.mem_filter] at this
  simpa using this
theorem peaks_same {sc : List Snd} {p : Int} (w : List Snd) (hr : okR sc p = true) : peaksTo sc p w w.length = peaksL p (lev sc w) := by
  rw [peaksTo, peaksL, lev_len]
  refine List.filter_congr fun i hi => ?_
  have hi : i < w.length := by simpa using hi
  rw [lev_at hi, peakB, sonN, if_pos hr]
/-- where the reference stops is where the program stops -/
theorem rises_down {sc : List Snd} {p : Int} {w : List Snd} (hr : okR sc p = true) {k e : Nat} (hk : k + 1 < (peaksL p (lev sc w)).length) (h1 : (peaksL p (lev sc w)).getD k 0 < e) (h2 : e ≤ (peaksL p (lev sc w)).getD (k + 1) 0) :
    risesB sc p w e ((peaksL p (lev sc w)).getD (k + 1) 0) = decide (begN (lev sc w) (peaksL p (lev sc w)) (k + 1) ≤ e) := by
  have hb := filter_between hk
  have ha := filter_at hk
  have h0 := filter_at (P := fun i => decide (p ≤ ((lev sc w).getD i 0 : Int))) (n := (lev sc w).length) (k := k) (by rw [peaksL] at hk; omega)
  rw [begN]
  rw [← peaksL] at hb ha h0
  revert hb ha h0 h1 h2
  generalize (peaksL p (lev sc w)).getD k 0 = x
  generalize (peaksL p (lev sc w)).getD (k + 1) 0 = y
  intro h1 h2 hb ha h0
  have hst : ∀ i, i < w.length → 0 < i → stepB sc p w i = decide ((lev sc w).getD (i - 1) 0 < (lev sc w).getD i 0) := by
    intro i hi hi0
    rw [stepB, sonN, sonN, if_pos hr, if_pos hr, lev_at hi, lev_at (by omega)]
  rw [lev_len] at ha
  rw [Bool.eq_iff_iff, risesB, List.all_eq_true, decide_eq_true_eq]
  constructor
  · intro h
    refine downE_up _ x e h1 y h2 fun i hi1 hi2 => ?_
    by_cases hy : i = y
    · subst hy
      have h3 : p ≤ ((lev sc w).getD i 0 : Int) := by simpa using ha.2
      have h4 := hb.2 (i - 1) (by omega) (by omega)
      have h4 : ¬ p ≤ ((lev sc w).getD (i - 1) 0 : Int) := by simpa using h4
      omega
    · have := h i (by simp; omega)
      rw [decide_eq_true hi1, hst i (by omega) (by omega)] at this
      simpa using this
  · intro h i hi
    have hi : i < y := by simpa using hi
    by_cases hei : e < i
    · have := downE_down _ x e h1 y h i hei (by omega)
      rw [hst i (by omega) (by omega), decide_eq_true this, Bool.or_true]
    · rw [decide_eq_false hei]; rfl

theorem rSplit_ok (sc : List Snd) (p : Int) (w : List Snd) (hsc : AllIn sc) (hw : AllIn w) : Ok Try.prog E 14 [.ag (ruleD sc p), .c (word w)] (.tp [.c (syls (splitS sc p w)), zv (checkE sc p [w])]) := by
  refine ok_of_vc (L := []) (ts := [4, 5]) envOK mixed Try.func14 rfl (by kernel_rfl) rfl (by kernel_rfl) rfl fun hl => ?_
  simp only [Try.f14, syls, word, nums, nats, zv, nv, bv, sv, VL, VB, BEq.rfl, V1, V2, V3, V4, V5, V6, V7, V8, V9, V10, V11, V12, V13, VE, Nat.reduceBEq, Nat.reduceAdd, Nat.reduceSub, Nat.reduceMul, Nat.reduceLeDiff, Nat.reduceLT, Nat.reduceEqDiff, Int.reduceBEq, Int.reduceBNe, Int.reduceLT, Int.reduceLE, Int.reduceAdd, Int.reduceSub, Int.reduceMul, kAgg, scD, List.all_cons, List.all_nil]
  refine CallX.mk (rcheck2_ok sc p w hsc hw) rfl ?_
  by_cases hc : checkE sc p [w] = 0
  · have hr : okR sc p = true := by
      rw [checkE, ruleE] at hc
      cases h : okR sc p with
      | true => rfl
      | false => rw [h] at hc; simp at hc
    have hl : w.length ≤ 32 := by
      rw [checkE, ruleE, if_pos hr, if_pos rfl, firstE] at hc
      by_cases h : 32 < w.length
      · rw [wordE, if_pos h] at hc; simp at hc
      · omega
    have hps := peaks_same w hr
    have hss : splitS sc p w = splitL p (lev sc w) := if_pos hc
    have hat := fun k hk => (filter_at (P := fun i => decide (p ≤ ((lev sc w).getD i 0 : Int))) (n := (lev sc w).length) (k := k) hk).1
    have hrd := fun k e h1 h2 h3 => rises_down (w := w) hr (k := k) (e := e) h1 h2 h3
    have hpl := peaksTo_len sc p w w.length
    have hb2 := fun k (hk : k + 1 < (peaksL p (lev sc w)).length) => (filter_between (P := fun i => decide (p ≤ ((lev sc w).getD i 0 : Int))) (n := (lev sc w).length) (k := k) hk).1
    rw [← peaksL] at hat hb2
    have hrp := rpeaks_ok sc p w hsc hw hl
    rw [hps] at hrp hpl
    rw [hss, splitL]
    obtain ⟨ps, hps2⟩ : ∃ ps, peaksL p (lev sc w) = ps := ⟨_, rfl⟩
    rw [hps2] at hrp hpl hat hb2 hrd ⊢
    rw [lev_len] at hat ⊢
    obtain ⟨lv, hlv⟩ : ∃ lv, lev sc w = lv := ⟨_, rfl⟩
    rw [hlv] at hrd ⊢
    have e0 : ((w.length : Int) == 0) = decide (w.length = 0) := eq_nat _ 0
    have e1 : ((ps.length : Int) == 0) = decide (ps.length = 0) := eq_nat _ 0
    simp only [hc, e0, word, nums, nats, zv, nv, bv, sv, VL, VB, BEq.rfl, V1, V2, V3, V4, V5, V6, V7, V8, V9, V10, V11, V12, V13, VE, Nat.reduceBEq, Nat.reduceAdd, Nat.reduceSub, Nat.reduceMul, Nat.reduceLeDiff, Nat.reduceLT, Nat.reduceEqDiff, Int.reduceBEq, Int.reduceBNe, Int.reduceLT, Int.reduceLE, Int.reduceAdd, Int.reduceSub, Int.reduceMul, kAgg, scD, List.all_cons, List.all_nil]
    refine guardB.mk (fun h => ?_) (fun h => ?_)
    · have h0 : w.length = 0 := by simpa using h
      have h2 : ps.length = 0 := by omega
      simp only [h0, h2, if_pos, List.map_nil, word, nums, nats, zv, nv, bv, sv, VL, VB, BEq.rfl, V1, V2, V3, V4, V5, V6, V7, V8, V9, V10, V11, V12, V13, VE, Nat.reduceBEq, Nat.reduceAdd, Nat.reduceSub, Nat.reduceMul, Nat.reduceLeDiff, Nat.reduceLT, Nat.reduceEqDiff, Int.reduceBEq, Int.reduceBNe, Int.reduceLT, Int.reduceLE, Int.reduceAdd, Int.reduceSub, Int.reduceMul, kAgg, scD, List.all_cons, List.all_nil]
    have h0 : ¬ w.length = 0 := by simpa using h
    clear h
    refine CallX.mk hrp rfl ?_
    simp only [nats, e1, word, nums, nats, zv, nv, bv, sv, VL, VB, BEq.rfl, V1, V2, V3, V4, V5, V6, V7, V8, V9, V10, V11, V12, V13, VE, Nat.reduceBEq, Nat.reduceAdd, Nat.reduceSub, Nat.reduceMul, Nat.reduceLeDiff, Nat.reduceLT, Nat.reduceEqDiff, Int.reduceBEq, Int.reduceBNe, Int.reduceLT, Int.reduceLE, Int.reduceAdd, Int.reduceSub, Int.reduceMul, kAgg, scD, List.all_cons, List.all_nil]
    refine guardB.mk (fun h => ?_) (fun h => ?_)
    · have h2 : ps.length = 0 := by simpa using h
      simp only [if_pos h2, if_neg h0, List.map_cons, List.map_nil, syl_def, word, nums, nats, zv, nv, bv, sv, VL, VB, BEq.rfl, V1, V2, V3, V4, V5, V6, V7, V8, V9, V10, V11, V12, V13, VE, Nat.reduceBEq, Nat.reduceAdd, Nat.reduceSub, Nat.reduceMul, Nat.reduceLeDiff, Nat.reduceLT, Nat.reduceEqDiff, Int.reduceBEq, Int.reduceBNe, Int.reduceLT, Int.reduceLE, Int.reduceAdd, Int.reduceSub, Int.reduceMul, kAgg, scD, List.all_cons, List.all_nil]
      rfl
    have h2 : ¬ ps.length = 0 := by simpa using h
    clear h
    simp only [if_neg h2, word, nums, nats, zv, nv, bv, sv, VL, VB, BEq.rfl, V1, V2, V3, V4, V5, V6, V7, V8, V9, V10, V11, V12, V13, VE, Nat.reduceBEq, Nat.reduceAdd, Nat.reduceSub, Nat.reduceMul, Nat.reduceLeDiff, Nat.reduceLT, Nat.reduceEqDiff, Int.reduceBEq, Int.reduceBNe, Int.reduceLT, Int.reduceLE, Int.reduceAdd, Int.reduceSub, Int.reduceMul, kAgg, scD, List.all_cons, List.all_nil]
    have hbl : ∀ k, begN lv ps k ≤ w.length := by
      intro k
      cases k with
      | zero => exact Nat.zero_le _
      | succ k =>
        refine Nat.le_trans (downE_le _ _ _) ?_
        by_cases h : k + 1 < ps.length
        · exact Nat.le_of_lt (hat _ h)
        · simp [List.getD, List.getElem?_eq_none (Nat.le_of_not_lt h)]
    refine LoopVC.mk (Y := Nat) (fun k => k ≤ ps.length) (fun k => ⟨[(1, .c (word w)), (2, .bp 2 0), (7, .c (nats ps)), (8, .osl 1000 0), (9, nv (if k < ps.length then begN lv ps k else w.length)), (10, nv k)], [(2, .cells [.c (word sc), zv p]), (1000, .arr 40 0 ((sylsTo lv ps w.length k).map Syl.enc))]⟩) (fun k => ps.length - k) ⟨0, Enter.mk [(8, (1000, 40))] [] [] ?_, by omega⟩ ?_
    · simp only [nats, if_pos (show 0 < ps.length by omega), word, nums, nats, zv, nv, bv, sv, VL, VB, BEq.rfl, V1, V2, V3, V4, V5, V6, V7, V8, V9, V10, V11, V12, V13, VE, Nat.reduceBEq, Nat.reduceAdd, Nat.reduceSub, Nat.reduceMul, Nat.reduceLeDiff, Nat.reduceLT, Nat.reduceEqDiff, Int.reduceBEq, Int.reduceBNe, Int.reduceLT, Int.reduceLE, Int.reduceAdd, Int.reduceSub, Int.reduceMul, kAgg, scD, List.all_cons, List.all_nil]
      exact ⟨rfl, ⟨rfl, rfl, rfl⟩, rfl⟩
    intro k hk
    simp only [lt_nat, nats, word, nums, nats, zv, nv, bv, sv, VL, VB, BEq.rfl, V1, V2, V3, V4, V5, V6, V7, V8, V9, V10, V11, V12, V13, VE, Nat.reduceBEq, Nat.reduceAdd, Nat.reduceSub, Nat.reduceMul, Nat.reduceLeDiff, Nat.reduceLT, Nat.reduceEqDiff, Int.reduceBEq, Int.reduceBNe, Int.reduceLT, Int.reduceLE, Int.reduceAdd, Int.reduceSub, Int.reduceMul, kAgg, scD, List.all_cons, List.all_nil]
    refine guardB.mk (fun h => ?_) (fun h => ?_)
    · have hk' : k < ps.length := by simpa using h
      clear h
      have hx := hat k hk'
      have hss := sylsTo_succ lv ps w.length k
      have hsl := sylsTo_len lv ps w.length k
      have hbk := hbl k
      have hgk := getD_nat ps k hk'
      rw [sylK] at hss
      obtain ⟨x, hx2⟩ : ∃ x, ps.getD k 0 = x := ⟨_, rfl⟩
      obtain ⟨b, hb⟩ : ∃ b, begN lv ps k = b := ⟨_, rfl⟩
      rw [hx2, hb] at hss
      rw [hb] at hbk
      rw [hx2] at hx hgk
      simp only [if_pos hk', hb, lt_nat, wrap_nat (k := k) (by omega), word, nums, nats, zv, nv, bv, sv, VL, VB, BEq.rfl, V1, V2, V3, V4, V5, V6, V7, V8, V9, V10, V11, V12, V13, VE, Nat.reduceBEq, Nat.reduceAdd, Nat.reduceSub, Nat.reduceMul, Nat.reduceLeDiff, Nat.reduceLT, Nat.reduceEqDiff, Int.reduceBEq, Int.reduceBNe, Int.reduceLT, Int.reduceLE, Int.reduceAdd, Int.reduceSub, Int.reduceMul, kAgg, scD, List.all_cons, List.all_nil]
      refine guardB.mk (fun h => ?_) (fun h => ?_)
      · have hk1 : k + 1 < ps.length := by simpa using h
        clear h
        have hrd := fun e h1 h2 => hrd k e hk1 h1 h2
        have hb2 := hb2 k hk1
        have hy := hat (k + 1) hk1
        have hgk1 := getD_nat ps (k + 1) hk1
        have hmy : begN lv ps (k + 1) ≤ ps.getD (k + 1) 0 := downE_le _ _ _
        have hmx : ps.getD k 0 < begN lv ps (k + 1) := downE_ge _ _ _ hb2
        rw [if_pos hk1] at hss
        obtain ⟨y, hy2⟩ : ∃ y, ps.getD (k + 1) 0 = y := ⟨_, rfl⟩
        rw [hy2] at hrd hb2 hy hgk1 hmy
        rw [hx2] at hrd hb2 hmx
        obtain ⟨m, hm⟩ : ∃ m, begN lv ps (k + 1) = m := ⟨_, rfl⟩
        rw [hm] at hss hrd hmy hmx
        simp only [hgk, nat_def, wrap_nat (k := x) (by omega), word, nums, nats, zv, nv, bv, sv, VL, VB, BEq.rfl, V1, V2, V3, V4, V5, V6, V7, V8, V9, V10, V11, V12, V13, VE, Nat.reduceBEq, Nat.reduceAdd, Nat.reduceSub, Nat.reduceMul, Nat.reduceLeDiff, Nat.reduceLT, Nat.reduceEqDiff, Int.reduceBEq, Int.reduceBNe, Int.reduceLT, Int.reduceLE, Int.reduceAdd, Int.reduceSub, Int.reduceMul, kAgg, scD, List.all_cons, List.all_nil]
        refine ⟨⟨Int.natCast_nonneg k, hk'⟩, ?_⟩
        refine LoopVC.mk (Y := Nat) (fun e => x < e ∧ e ≤ m) (fun e => ⟨[(1, .c (word w)), (2, .bp 2 0), (7, .c (nats ps)), (8, .osl 1000 0), (9, nv b), (10, nv k), (11, nv e)], [(2, .cells [.c (word sc), zv p]), (1000, .arr 40 0 ((sylsTo lv ps w.length k).map Syl.enc))]⟩) (fun e => m - e) ⟨x + 1, Enter.id ?_, by omega, by omega⟩ ?_
        · simp only [nats, word, nums, nats, zv, nv, bv, sv, VL, VB, BEq.rfl, V1, V2, V3, V4, V5, V6, V7, V8, V9, V10, V11, V12, V13, VE, Nat.reduceBEq, Nat.reduceAdd, Nat.reduceSub, Nat.reduceMul, Nat.reduceLeDiff, Nat.reduceLT, Nat.reduceEqDiff, Int.reduceBEq, Int.reduceBNe, Int.reduceLT, Int.reduceLE, Int.reduceAdd, Int.reduceSub, Int.reduceMul, kAgg, scD, List.all_cons, List.all_nil]
        rintro e ⟨he, hem⟩
        have hri := rises_ok sc p w e y hsc hw hl (by omega) (by omega)
        rw [hrd e he (by omega)] at hri
        simp only [nats, hgk1, nat_def, wrap_nat (k := k) (by omega), word, nums, nats, zv, nv, bv, sv, VL, VB, BEq.rfl, V1, V2, V3, V4, V5, V6, V7, V8, V9, V10, V11, V12, V13, VE, Nat.reduceBEq, Nat.reduceAdd, Nat.reduceSub, Nat.reduceMul, Nat.reduceLeDiff, Nat.reduceLT, Nat.reduceEqDiff, Int.reduceBEq, Int.reduceBNe, Int.reduceLT, Int.reduceLE, Int.reduceAdd, Int.reduceSub, Int.reduceMul, kAgg, scD, List.all_cons, List.all_nil]
        refine ⟨⟨by omega, hk1⟩, ?_⟩
        refine CallX.mk hri rfl ?_
        by_cases hme : m ≤ e
        · have hme : m = e := by omega
          subst hme
          simp only [decide_eq_true (Nat.le_refl m), hgk, nat_def, wrap_nat (k := x) (by omega), word, nums, nats, zv, nv, bv, sv, VL, VB, BEq.rfl, V1, V2, V3, V4, V5, V6, V7, V8, V9, V10, V11, V12, V13, VE, Nat.reduceBEq, Nat.reduceAdd, Nat.reduceSub, Nat.reduceMul, Nat.reduceLeDiff, Nat.reduceLT, Nat.reduceEqDiff, Int.reduceBEq, Int.reduceBNe, Int.reduceLT, Int.reduceLE, Int.reduceAdd, Int.reduceSub, Int.reduceMul, kAgg, scD, List.all_cons, List.all_nil]
          have hal : AllLen 4 [Syl.enc ⟨b, x, x + 1, m⟩] := allLen_syl [⟨b, x, x + 1, m⟩]
          simp only [hsl, wrap_nat (k := k) (by omega), word, nums, nats, zv, nv, bv, sv, VL, VB, BEq.rfl, V1, V2, V3, V4, V5, V6, V7, V8, V9, V10, V11, V12, V13, VE, Nat.reduceBEq, Nat.reduceAdd, Nat.reduceSub, Nat.reduceMul, Nat.reduceLeDiff, Nat.reduceLT, Nat.reduceEqDiff, Int.reduceBEq, Int.reduceBNe, Int.reduceLT, Int.reduceLE, Int.reduceAdd, Int.reduceSub, Int.reduceMul, kAgg, scD, List.all_cons, List.all_nil]
          refine ⟨⟨Int.natCast_nonneg k, hk'⟩, ⟨Int.natCast_nonneg k, hk'⟩, ⟨by omega, hal⟩, k + 1, Enter.id ?_, by omega, by show ps.length - (k + 1) < ps.length - k; omega⟩
          simp only [if_pos hk1, hm, hss, List.map_append, List.map_cons, List.map_nil, syl_def, word, nums, nats, zv, nv, bv, sv, VL, VB, BEq.rfl, V1, V2, V3, V4, V5, V6, V7, V8, V9, V10, V11, V12, V13, VE, Nat.reduceBEq, Nat.reduceAdd, Nat.reduceSub, Nat.reduceMul, Nat.reduceLeDiff, Nat.reduceLT, Nat.reduceEqDiff, Int.reduceBEq, Int.reduceBNe, Int.reduceLT, Int.reduceLE, Int.reduceAdd, Int.reduceSub, Int.reduceMul, kAgg, scD, List.all_cons, List.all_nil]
        · simp only [decide_eq_false hme, wrap_nat (k := e) (by omega), word, nums, nats, zv, nv, bv, sv, VL, VB, BEq.rfl, V1, V2, V3, V4, V5, V6, V7, V8, V9, V10, V11, V12, V13, VE, Nat.reduceBEq, Nat.reduceAdd, Nat.reduceSub, Nat.reduceMul, Nat.reduceLeDiff, Nat.reduceLT, Nat.reduceEqDiff, Int.reduceBEq, Int.reduceBNe, Int.reduceLT, Int.reduceLE, Int.reduceAdd, Int.reduceSub, Int.reduceMul, kAgg, scD, List.all_cons, List.all_nil]
          refine ⟨e + 1, Enter.id ?_, ⟨by omega, by omega⟩, by show m - (e + 1) < m - e; omega⟩
          simp only [word, nums, nats, zv, nv, bv, sv, VL, VB, BEq.rfl, V1, V2, V3, V4, V5, V6, V7, V8, V9, V10, V11, V12, V13, VE, Nat.reduceBEq, Nat.reduceAdd, Nat.reduceSub, Nat.reduceMul, Nat.reduceLeDiff, Nat.reduceLT, Nat.reduceEqDiff, Int.reduceBEq, Int.reduceBNe, Int.reduceLT, Int.reduceLE, Int.reduceAdd, Int.reduceSub, Int.reduceMul, kAgg, scD, List.all_cons, List.all_nil]
      · have hk1 : ¬ k + 1 < ps.length := by simpa using h
        clear h
        rw [if_neg hk1] at hss
        simp only [hgk, nat_def, wrap_nat (k := x) (by omega), word, nums, nats, zv, nv, bv, sv, VL, VB, BEq.rfl, V1, V2, V3, V4, V5, V6, V7, V8, V9, V10, V11, V12, V13, VE, Nat.reduceBEq, Nat.reduceAdd, Nat.reduceSub, Nat.reduceMul, Nat.reduceLeDiff, Nat.reduceLT, Nat.reduceEqDiff, Int.reduceBEq, Int.reduceBNe, Int.reduceLT, Int.reduceLE, Int.reduceAdd, Int.reduceSub, Int.reduceMul, kAgg, scD, List.all_cons, List.all_nil]
        have hal : AllLen 4 [Syl.enc ⟨b, x, x + 1, w.length⟩] := allLen_syl [⟨b, x, x + 1, w.length⟩]
        simp only [hsl, wrap_nat (k := k) (by omega), word, nums, nats, zv, nv, bv, sv, VL, VB, BEq.rfl, V1, V2, V3, V4, V5, V6, V7, V8, V9, V10, V11, V12, V13, VE, Nat.reduceBEq, Nat.reduceAdd, Nat.reduceSub, Nat.reduceMul, Nat.reduceLeDiff, Nat.reduceLT, Nat.reduceEqDiff, Int.reduceBEq, Int.reduceBNe, Int.reduceLT, Int.reduceLE, Int.reduceAdd, Int.reduceSub, Int.reduceMul, kAgg, scD, List.all_cons, List.all_nil]
        refine ⟨⟨Int.natCast_nonneg k, hk'⟩, ⟨Int.natCast_nonneg k, hk'⟩, ⟨by omega, hal⟩, k + 1, Enter.id ?_, by omega, by show ps.length - (k + 1) < ps.length - k; omega⟩
        simp only [if_neg hk1, hss, List.map_append, List.map_cons, List.map_nil, syl_def, word, nums, nats, zv, nv, bv, sv, VL, VB, BEq.rfl, V1, V2, V3, V4, V5, V6, V7, V8, V9, V10, V11, V12, V13, VE, Nat.reduceBEq, Nat.reduceAdd, Nat.reduceSub, Nat.reduceMul, Nat.reduceLeDiff, Nat.reduceLT, Nat.reduceEqDiff, Int.reduceBEq, Int.reduceBNe, Int.reduceLT, Int.reduceLE, Int.reduceAdd, Int.reduceSub, Int.reduceMul, kAgg, scD, List.all_cons, List.all_nil]
    · have hk' : k = ps.length := by
        have : ¬ k < ps.length := by simpa using h
        omega
      simp only [hk', word, nums, nats, zv, nv, bv, sv, VL, VB, BEq.rfl, V1, V2, V3, V4, V5, V6, V7, V8, V9, V10, V11, V12, V13, VE, Nat.reduceBEq, Nat.reduceAdd, Nat.reduceSub, Nat.reduceMul, Nat.reduceLeDiff, Nat.reduceLT, Nat.reduceEqDiff, Int.reduceBEq, Int.reduceBNe, Int.reduceLT, Int.reduceLE, Int.reduceAdd, Int.reduceSub, Int.reduceMul, kAgg, scD, List.all_cons, List.all_nil]
  · have h1 : (checkE sc p [w] != 0) = true := by simpa using hc
    simp only [h1, splitS, if_neg hc, List.map_nil, word, nums, nats, zv, nv, bv, sv, VL, VB, BEq.rfl, V1, V2, V3, V4, V5, V6, V7, V8, V9, V10, V11, V12, V13, VE, Nat.reduceBEq, Nat.reduceAdd, Nat.reduceSub, Nat.reduceMul, Nat.reduceLeDiff, Nat.reduceLT, Nat.reduceEqDiff, Int.reduceBEq, Int.reduceBNe, Int.reduceLT, Int.reduceLE, Int.reduceAdd, Int.reduceSub, Int.reduceMul, kAgg, scD, List.all_cons, List.all_nil]
end Go.Cp
end

section
set_option linter.unusedVariables false
set_option linter.unusedSimpArgs false
set_option maxHeartbeats 4000000
set_option maxRecDepth 10000
namespace Go.Cp
open Go Go.Proofs Go.Vx

theorem other_ok (sc : List Snd) (p : Int) : Ok Try.prog E 15 [.ag (ruleD sc p)] (.ag (ruleD sc p)) := by
  refine ok_of_vcC (L := []) (rs := [.cell 2 32]) envOK mixed Try.func15 rfl (by kernel_rfl) rfl (by kernel_rfl) rfl fun hl => ?_
  simp only [Try.f15, word, nums, nats, zv, nv, bv, sv, VL, VB, BEq.rfl, V1, V2, V3, V4, V5, V6, V7, V8, V9, V10, V11, V12, V13, VE, Nat.reduceBEq, Nat.reduceAdd, Nat.reduceSub, Nat.reduceMul, Nat.reduceLeDiff, Nat.reduceLT, Nat.reduceEqDiff, Int.reduceBEq, Int.reduceBNe, Int.reduceLT, Int.reduceLE, Int.reduceAdd, Int.reduceSub, Int.reduceMul, kAgg, scD, List.all_cons, List.all_nil]

def bol (b : Bool) : List D := [.sc (.bool b)]
abbrev bols (xs : List Bool) : D := .sl (xs.map bol)
theorem bol_def (b : Bool) : bol b = [.sc (.bool b)] := rfl
theorem getD_bol (xs : List Bool) (k : Nat) (h : k < xs.length) : (xs.map bol).getD k [] = bol (xs.getD k false) := by
  simp [List.getD, List.getElem?_map, List.getElem?_eq_getElem h]
theorem allLen_bol (xs : List Bool) : AllLen 1 (xs.map bol) := by
  intro y hy
  obtain ⟨n, _, rfl⟩ := List.mem_map.1 hy
  rfl
def heavyOf (ss : List Syl) : List Bool := ss.map fun s => decide (s.c < s.e)
def heavyS (sc : List Snd) (p : Int) (w : List Snd) : List Bool := heavyOf (splitS sc p w)
theorem checkE_zero {sc : List Snd} {p : Int} {w : List Snd} (hc : checkE sc p [w] = 0) : okR sc p = true ∧ w.length ≤ 32 := by
  have hr : okR sc p = true := by
    rw [checkE, ruleE] at hc
    cases h : okR sc p with
    | true => rfl
    | false => rw [h] at hc; simp at hc
  refine ⟨hr, ?_⟩
  rw [checkE, ruleE, if_pos hr, if_pos rfl, firstE] at hc
  by_cases h : 32 < w.length
  · rw [wordE, if_pos h] at hc; simp at hc
  · omega
theorem peaksL_len (p : Int) (lv : List Nat) : (peaksL p lv).length ≤ lv.length := Nat.le_trans (List.length_filter_le _ _) (by simp)
theorem splitL_len (p : Int) (lv : List Nat) : (splitL p lv).length ≤ lv.length := by
  rw [splitL]
  have := peaksL_len p lv
  split
  · split
    · exact Nat.zero_le _
    · simp; omega
  · rw [sylsTo_len]; exact this
theorem splitS_len (sc : List Snd) (p : Int) (w : List Snd) : (splitS sc p w).length ≤ 32 := by
  rw [splitS]
  split
  · rename_i h
    have := splitL_len p (lev sc w)
    rw [lev_len] at this
    have := (checkE_zero h).2
    omega
  · exact Nat.zero_le _
theorem heavy_take {ss : List Syl} {k : Nat} (h : k < ss.length) : (heavyOf (ss.take (k + 1))).map bol = (heavyOf (ss.take k)).map bol ++ [bol (decide ((ss.getD k Syl.zero).c < (ss.getD k Syl.zero).e))] := by
  rw [heavyOf, heavyOf, List.take_add_one, List.getElem?_eq_getElem h, getD_of Syl.zero ss k h, List.map_append, List.map_append]; rfl
theorem rHeavy_ok (sc : List Snd) (p : Int) (w : List Snd) (hsc : AllIn sc) (hw : AllIn w) : Ok Try.prog E 17 [.ag (ruleD sc p), .c (word w)] (.tp [.c (bols (heavyS sc p w)), zv (checkE sc p [w])]) := by
  refine ok_of_vc (L := []) (ts := [4, 5]) envOK mixed Try.func17 rfl (by kernel_rfl) rfl (by kernel_rfl) rfl fun hl => ?_
  simp only [Try.f17, bols, word, nums, nats, zv, nv, bv, sv, VL, VB, BEq.rfl, V1, V2, V3, V4, V5, V6, V7, V8, V9, V10, V11, V12, V13, VE, Nat.reduceBEq, Nat.reduceAdd, Nat.reduceSub, Nat.reduceMul, Nat.reduceLeDiff, Nat.reduceLT, Nat.reduceEqDiff, Int.reduceBEq, Int.reduceBNe, Int.reduceLT, Int.reduceLE, Int.reduceAdd, Int.reduceSub, Int.reduceMul, kAgg, scD, List.all_cons, List.all_nil]
  refine CallX.mk (rSplit_ok sc p w hsc hw) rfl ?_
  have hlen := splitS_len sc p w
  rw [heavyS]
  by_cases hc : checkE sc p [w] = 0
  · obtain ⟨ss, hs⟩ : ∃ ss, splitS sc p w = ss := ⟨_, rfl⟩
    rw [hs] at hlen ⊢
    simp only [hc, syls, word, nums, nats, zv, nv, bv, sv, VL, VB, BEq.rfl, V1, V2, V3, V4, V5, V6, V7, V8, V9, V10, V11, V12, V13, VE, Nat.reduceBEq, Nat.reduceAdd, Nat.reduceSub, Nat.reduceMul, Nat.reduceLeDiff, Nat.reduceLT, Nat.reduceEqDiff, Int.reduceBEq, Int.reduceBNe, Int.reduceLT, Int.reduceLE, Int.reduceAdd, Int.reduceSub, Int.reduceMul, kAgg, scD, List.all_cons, List.all_nil]
    refine LoopVC.mk (Y := Nat) (fun k => k ≤ ss.length) (fun k => ⟨[(6, .c (syls ss)), (8, .osl 1000 0), (9, nv k)], [(1000, .arr 4 0 ((heavyOf (ss.take k)).map bol))]⟩) (fun k => ss.length - k) ⟨0, Enter.mk [(8, (1000, 4))] [] [] ?_, by omega⟩ ?_
    · simp only [syls, word, nums, nats, zv, nv, bv, sv, VL, VB, BEq.rfl, V1, V2, V3, V4, V5, V6, V7, V8, V9, V10, V11, V12, V13, VE, Nat.reduceBEq, Nat.reduceAdd, Nat.reduceSub, Nat.reduceMul, Nat.reduceLeDiff, Nat.reduceLT, Nat.reduceEqDiff, Int.reduceBEq, Int.reduceBNe, Int.reduceLT, Int.reduceLE, Int.reduceAdd, Int.reduceSub, Int.reduceMul, kAgg, scD, List.all_cons, List.all_nil]
      exact ⟨rfl, ⟨rfl, rfl⟩, rfl⟩
    intro k hk
    simp only [lt_nat, syls, word, nums, nats, zv, nv, bv, sv, VL, VB, BEq.rfl, V1, V2, V3, V4, V5, V6, V7, V8, V9, V10, V11, V12, V13, VE, Nat.reduceBEq, Nat.reduceAdd, Nat.reduceSub, Nat.reduceMul, Nat.reduceLeDiff, Nat.reduceLT, Nat.reduceEqDiff, Int.reduceBEq, Int.reduceBNe, Int.reduceLT, Int.reduceLE, Int.reduceAdd, Int.reduceSub, Int.reduceMul, kAgg, scD, List.all_cons, List.all_nil]
    refine guardB.mk (fun h => ?_) (fun h => ?_)
    · have hk' : k < ss.length := by simpa using h
      clear h
      have htk := heavy_take hk'
      have hgk := getD_syl ss k hk'
      obtain ⟨s, hs2⟩ : ∃ s, ss.getD k Syl.zero = s := ⟨_, rfl⟩
      rw [hs2] at htk hgk
      have hal : AllLen 1 [bol (decide (s.c < s.e))] := allLen_bol [_]
      have hl2 : (heavyOf (ss.take k)).length = k := by rw [heavyOf, List.length_map, List.length_take]; omega
      simp only [hgk, syl_def, lt_nat, hl2, wrap_nat (k := k) (by omega), word, nums, nats, zv, nv, bv, sv, VL, VB, BEq.rfl, V1, V2, V3, V4, V5, V6, V7, V8, V9, V10, V11, V12, V13, VE, Nat.reduceBEq, Nat.reduceAdd, Nat.reduceSub, Nat.reduceMul, Nat.reduceLeDiff, Nat.reduceLT, Nat.reduceEqDiff, Int.reduceBEq, Int.reduceBNe, Int.reduceLT, Int.reduceLE, Int.reduceAdd, Int.reduceSub, Int.reduceMul, kAgg, scD, List.all_cons, List.all_nil]
      refine ⟨⟨Int.natCast_nonneg k, hk'⟩, ⟨Int.natCast_nonneg k, hk'⟩, ⟨by omega, hal⟩, k + 1, Enter.id ?_, by omega, by show ss.length - (k + 1) < ss.length - k; omega⟩
      simp only [htk, bol_def, word, nums, nats, zv, nv, bv, sv, VL, VB, BEq.rfl, V1, V2, V3, V4, V5, V6, V7, V8, V9, V10, V11, V12, V13, VE, Nat.reduceBEq, Nat.reduceAdd, Nat.reduceSub, Nat.reduceMul, Nat.reduceLeDiff, Nat.reduceLT, Nat.reduceEqDiff, Int.reduceBEq, Int.reduceBNe, Int.reduceLT, Int.reduceLE, Int.reduceAdd, Int.reduceSub, Int.reduceMul, kAgg, scD, List.all_cons, List.all_nil]
    · have hk' : k = ss.length := by
        have : ¬ k < ss.length := by simpa using h
        omega
      simp only [hk', List.take_length, word, nums, nats, zv, nv, bv, sv, VL, VB, BEq.rfl, V1, V2, V3, V4, V5, V6, V7, V8, V9, V10, V11, V12, V13, VE, Nat.reduceBEq, Nat.reduceAdd, Nat.reduceSub, Nat.reduceMul, Nat.reduceLeDiff, Nat.reduceLT, Nat.reduceEqDiff, Int.reduceBEq, Int.reduceBNe, Int.reduceLT, Int.reduceLE, Int.reduceAdd, Int.reduceSub, Int.reduceMul, kAgg, scD, List.all_cons, List.all_nil]
  · have h1 : (checkE sc p [w] != 0) = true := by simpa using hc
    simp only [h1, splitS, if_neg hc, heavyOf, List.map_nil, word, nums, nats, zv, nv, bv, sv, VL, VB, BEq.rfl, V1, V2, V3, V4, V5, V6, V7, V8, V9, V10, V11, V12, V13, VE, Nat.reduceBEq, Nat.reduceAdd, Nat.reduceSub, Nat.reduceMul, Nat.reduceLeDiff, Nat.reduceLT, Nat.reduceEqDiff, Int.reduceBEq, Int.reduceBNe, Int.reduceLT, Int.reduceLE, Int.reduceAdd, Int.reduceSub, Int.reduceMul, kAgg, scD, List.all_cons, List.all_nil]

/-! stress -/
def firstH (hv : List Bool) : Nat := if hv.any id then hv.findIdx id else 0
def lastTo (hv : List Bool) : Nat → Option Nat
  | 0 => none
  | k + 1 => if hv.getD k false = true then some k else lastTo hv k
def lastH (hv : List Bool) : Nat := (lastTo hv hv.length).getD (hv.length - 1)
def stressT (hv : List Bool) (mode : Int) : Nat :=
  if mode = 1 then 0 else if mode = 2 then hv.length - 1 else if mode = 3 then hv.length - 2 else
  if mode = 4 then (if hv.length ≤ 2 ∨ hv.getD (hv.length - 2) false = true then hv.length - 2 else hv.length - 3) else
  if mode = 5 then firstH hv else lastH hv
theorem st1 (hv : List Bool) : stressT hv 1 = 0 := by simp [stressT]
theorem st2 (hv : List Bool) : stressT hv 2 = hv.length - 1 := by simp [stressT]
theorem st3 (hv : List Bool) : stressT hv 3 = hv.length - 2 := by simp [stressT]
theorem st4 (hv : List Bool) : stressT hv 4 = if hv.length ≤ 2 ∨ hv.getD (hv.length - 2) false = true then hv.length - 2 else hv.length - 3 := by simp [stressT]
theorem st5 (hv : List Bool) : stressT hv 5 = firstH hv := by simp [stressT]
theorem st6 (hv : List Bool) : stressT hv 6 = lastH hv := by simp [stressT]
theorem max_two {n : Nat} (h : n ≤ 32) : (bif decide (0 < IntKind.i64.wrap ((n : Int) - 2)) then IntKind.i64.wrap ((n : Int) - 2) else 0) = ((n - 2 : Nat) : Int) := by
  rw [wrap_in (by omega) (by omega)]
  by_cases h2 : (0 : Int) < (n : Int) - 2
  · rw [decide_eq_true h2]; show (n : Int) - 2 = _; omega
  · rw [decide_eq_false h2]; show (0 : Int) = _; omega
theorem firstH_at {hv : List Bool} {k : Nat} (hk : k < hv.length) (hp : (hv.take k).any id = false) (hb : hv.getD k false = true) : firstH hv = k := by
  have hb2 : hv[k] = true := by rw [← getD_of false hv k hk]; exact hb
  rw [firstH, if_pos]
  · rw [List.findIdx_eq hk, hb2]
    refine ⟨rfl, fun j hj => ?_⟩
    have := List.any_eq_false.1 hp hv[j] (by rw [List.mem_take_iff_getElem]; exact ⟨j, by omega, rfl⟩)
    simpa using this
  · rw [List.any_eq_true]
    exact ⟨hv[k], List.getElem_mem _, hb2⟩
theorem any_take_succ {hv : List Bool} {k : Nat} (hk : k < hv.length) : (hv.take (k + 1)).any id = ((hv.take k).any id || hv.getD k false) := by
  rw [List.take_add_one, List.getElem?_eq_getElem hk, List.any_append, getD_of false hv k hk]; simp
def stressE (sc : List Snd) (p : Int) (w : List Snd) (mode : Int) : Int :=
  if checkE sc p [w] = 0 then (if mode < 1 ∨ 6 < mode then 3 else if (heavyS sc p w).length = 0 then 5 else 0) else checkE sc p [w]
def stressV (sc : List Snd) (p : Int) (w : List Snd) (mode : Int) : Nat := if stressE sc p w mode = 0 then stressT (heavyS sc p w) mode else 0
theorem rStress_ok (sc : List Snd) (p : Int) (w : List Snd) (mode : Int) (hsc : AllIn sc) (hw : AllIn w) : Ok Try.prog E 20 [.ag (ruleD sc p), .c (word w), zv mode] (.tp [nv (stressV sc p w mode), zv (stressE sc p w mode)]) := by
  refine ok_of_vc (L := []) (ts := [6, 7]) envOK mixed Try.func20 rfl (by kernel_rfl) rfl (by kernel_rfl) rfl fun hl => ?_
  simp only [Try.f20, word, nums, nats, zv, nv, bv, sv, VL, VB, BEq.rfl, V1, V2, V3, V4, V5, V6, V7, V8, V9, V10, V11, V12, V13, VE, Nat.reduceBEq, Nat.reduceAdd, Nat.reduceSub, Nat.reduceMul, Nat.reduceLeDiff, Nat.reduceLT, Nat.reduceEqDiff, Int.reduceBEq, Int.reduceBNe, Int.reduceLT, Int.reduceLE, Int.reduceAdd, Int.reduceSub, Int.reduceMul, kAgg, scD, List.all_cons, List.all_nil]
  refine CallX.mk (rHeavy_ok sc p w hsc hw) rfl ?_
  have hlen := splitS_len sc p w
  have hlen : (heavyS sc p w).length ≤ 32 := by rw [heavyS, heavyOf, List.length_map]; exact hlen
  rw [stressV]
  by_cases hc : checkE sc p [w] = 0
  · rw [stressE, if_pos hc]
    obtain ⟨hv, hs⟩ : ∃ hv, heavyS sc p w = hv := ⟨_, rfl⟩
    rw [hs] at hlen ⊢
    have e0 : ((hv.length : Int) == 0) = decide (hv.length = 0) := eq_nat _ 0
    simp only [hc, bols, e0, word, nums, nats, zv, nv, bv, sv, VL, VB, BEq.rfl, V1, V2, V3, V4, V5, V6, V7, V8, V9, V10, V11, V12, V13, VE, Nat.reduceBEq, Nat.reduceAdd, Nat.reduceSub, Nat.reduceMul, Nat.reduceLeDiff, Nat.reduceLT, Nat.reduceEqDiff, Int.reduceBEq, Int.reduceBNe, Int.reduceLT, Int.reduceLE, Int.reduceAdd, Int.reduceSub, Int.reduceMul, kAgg, scD, List.all_cons, List.all_nil]
    by_cases hm : mode < 1 ∨ 6 < mode
    · have hm2 : (decide (mode < 1) || decide (6 < mode)) = true := by simpa using hm
      rw [if_pos hm]
      simp only [show ((3 : Int) = 0) = False by simp, if_false]
      refine guardB.mk (fun h => ?_) (fun h => ?_)
      · simp only [h, word, nums, nats, zv, nv, bv, sv, VL, VB, BEq.rfl, V1, V2, V3, V4, V5, V6, V7, V8, V9, V10, V11, V12, V13, VE, Nat.reduceBEq, Nat.reduceAdd, Nat.reduceSub, Nat.reduceMul, Nat.reduceLeDiff, Nat.reduceLT, Nat.reduceEqDiff, Int.reduceBEq, Int.reduceBNe, Int.reduceLT, Int.reduceLE, Int.reduceAdd, Int.reduceSub, Int.reduceMul, kAgg, scD, List.all_cons, List.all_nil]
        rfl
      · rw [h, Bool.false_or] at hm2
        simp only [h, hm2, word, nums, nats, zv, nv, bv, sv, VL, VB, BEq.rfl, V1, V2, V3, V4, V5, V6, V7, V8, V9, V10, V11, V12, V13, VE, Nat.reduceBEq, Nat.reduceAdd, Nat.reduceSub, Nat.reduceMul, Nat.reduceLeDiff, Nat.reduceLT, Nat.reduceEqDiff, Int.reduceBEq, Int.reduceBNe, Int.reduceLT, Int.reduceLE, Int.reduceAdd, Int.reduceSub, Int.reduceMul, kAgg, scD, List.all_cons, List.all_nil]
        rfl
    rw [if_neg hm]
    have h6 : mode = 1 ∨ mode = 2 ∨ mode = 3 ∨ mode = 4 ∨ mode = 5 ∨ mode = 6 := by omega
    by_cases h0 : hv.length = 0
    · have e0 : ((hv.length : Int) == 0) = true := by rw [e0, decide_eq_true h0]
      rw [if_pos h0]
      rcases h6 with rfl | rfl | rfl | rfl | rfl | rfl <;> simp only [e0, word, nums, nats, zv, nv, bv, sv, VL, VB, BEq.rfl, V1, V2, V3, V4, V5, V6, V7, V8, V9, V10, V11, V12, V13, VE, Nat.reduceBEq, Nat.reduceAdd, Nat.reduceSub, Nat.reduceMul, Nat.reduceLeDiff, Nat.reduceLT, Nat.reduceEqDiff, Int.reduceBEq, Int.reduceBNe, Int.reduceLT, Int.reduceLE, Int.reduceAdd, Int.reduceSub, Int.reduceMul, kAgg, scD, List.all_cons, List.all_nil] <;> rfl
    have e0 : ((hv.length : Int) == 0) = false := by rw [e0, decide_eq_false h0]
    rw [if_neg h0]
    simp only [if_true]
    rcases h6 with rfl | rfl | rfl | rfl | rfl | rfl
    · simp only [e0, st1, word, nums, nats, zv, nv, bv, sv, VL, VB, BEq.rfl, V1, V2, V3, V4, V5, V6, V7, V8, V9, V10, V11, V12, V13, VE, Nat.reduceBEq, Nat.reduceAdd, Nat.reduceSub, Nat.reduceMul, Nat.reduceLeDiff, Nat.reduceLT, Nat.reduceEqDiff, Int.reduceBEq, Int.reduceBNe, Int.reduceLT, Int.reduceLE, Int.reduceAdd, Int.reduceSub, Int.reduceMul, kAgg, scD, List.all_cons, List.all_nil]
      rfl
    · have e1 : IntKind.i64.wrap ((hv.length : Int) - 1) = ((hv.length - 1 : Nat) : Int) := by rw [wrap_in (by omega) (by omega)]; omega
      simp only [e0, e1, st2, word, nums, nats, zv, nv, bv, sv, VL, VB, BEq.rfl, V1, V2, V3, V4, V5, V6, V7, V8, V9, V10, V11, V12, V13, VE, Nat.reduceBEq, Nat.reduceAdd, Nat.reduceSub, Nat.reduceMul, Nat.reduceLeDiff, Nat.reduceLT, Nat.reduceEqDiff, Int.reduceBEq, Int.reduceBNe, Int.reduceLT, Int.reduceLE, Int.reduceAdd, Int.reduceSub, Int.reduceMul, kAgg, scD, List.all_cons, List.all_nil]
    · simp only [e0, st3, max_two hlen, word, nums, nats, zv, nv, bv, sv, VL, VB, BEq.rfl, V1, V2, V3, V4, V5, V6, V7, V8, V9, V10, V11, V12, V13, VE, Nat.reduceBEq, Nat.reduceAdd, Nat.reduceSub, Nat.reduceMul, Nat.reduceLeDiff, Nat.reduceLT, Nat.reduceEqDiff, Int.reduceBEq, Int.reduceBNe, Int.reduceLT, Int.reduceLE, Int.reduceAdd, Int.reduceSub, Int.reduceMul, kAgg, scD, List.all_cons, List.all_nil]
    · rw [st4]
      have e2 : decide ((hv.length : Int) ≤ 2) = decide (hv.length ≤ 2) := le_nat _ 2
      simp only [e0, e2, word, nums, nats, zv, nv, bv, sv, VL, VB, BEq.rfl, V1, V2, V3, V4, V5, V6, V7, V8, V9, V10, V11, V12, V13, VE, Nat.reduceBEq, Nat.reduceAdd, Nat.reduceSub, Nat.reduceMul, Nat.reduceLeDiff, Nat.reduceLT, Nat.reduceEqDiff, Int.reduceBEq, Int.reduceBNe, Int.reduceLT, Int.reduceLE, Int.reduceAdd, Int.reduceSub, Int.reduceMul, kAgg, scD, List.all_cons, List.all_nil]
      refine guardB.mk (fun h => ?_) (fun h => ?_)
      · have h : hv.length ≤ 2 := by simpa using h
        rw [if_pos (.inl h)]
        simp only [decide_eq_true h, max_two hlen, word, nums, nats, zv, nv, bv, sv, VL, VB, BEq.rfl, V1, V2, V3, V4, V5, V6, V7, V8, V9, V10, V11, V12, V13, VE, Nat.reduceBEq, Nat.reduceAdd, Nat.reduceSub, Nat.reduceMul, Nat.reduceLeDiff, Nat.reduceLT, Nat.reduceEqDiff, Int.reduceBEq, Int.reduceBNe, Int.reduceLT, Int.reduceLE, Int.reduceAdd, Int.reduceSub, Int.reduceMul, kAgg, scD, List.all_cons, List.all_nil]
      · have h : ¬ hv.length ≤ 2 := by simpa using h
        have e3 : IntKind.i64.wrap ((hv.length : Int) - 2) = ((hv.length - 2 : Nat) : Int) := by rw [wrap_in (by omega) (by omega)]; omega
        have e4 : IntKind.i64.wrap ((hv.length : Int) - 3) = ((hv.length - 3 : Nat) : Int) := by rw [wrap_in (by omega) (by omega)]; omega
        have hgk := getD_bol hv (hv.length - 2) (by omega)
        obtain ⟨b, hb⟩ : ∃ b, hv.getD (hv.length - 2) false = b := ⟨_, rfl⟩
        rw [hb] at hgk ⊢
        have hmx := max_two hlen
        rw [e3] at hmx
        simp only [decide_eq_false h, e3, hgk, bol_def, word, nums, nats, zv, nv, bv, sv, VL, VB, BEq.rfl, V1, V2, V3, V4, V5, V6, V7, V8, V9, V10, V11, V12, V13, VE, Nat.reduceBEq, Nat.reduceAdd, Nat.reduceSub, Nat.reduceMul, Nat.reduceLeDiff, Nat.reduceLT, Nat.reduceEqDiff, Int.reduceBEq, Int.reduceBNe, Int.reduceLT, Int.reduceLE, Int.reduceAdd, Int.reduceSub, Int.reduceMul, kAgg, scD, List.all_cons, List.all_nil]
        refine ⟨⟨Int.natCast_nonneg _, by omega⟩, ?_⟩
        cases b with
        | true =>
          simp only [h, or_true, if_true, e3, hmx, word, nums, nats, zv, nv, bv, sv, VL, VB, BEq.rfl, V1, V2, V3, V4, V5, V6, V7, V8, V9, V10, V11, V12, V13, VE, Nat.reduceBEq, Nat.reduceAdd, Nat.reduceSub, Nat.reduceMul, Nat.reduceLeDiff, Nat.reduceLT, Nat.reduceEqDiff, Int.reduceBEq, Int.reduceBNe, Int.reduceLT, Int.reduceLE, Int.reduceAdd, Int.reduceSub, Int.reduceMul, kAgg, scD, List.all_cons, List.all_nil]
        | false =>
          simp only [h, e4, Bool.false_eq_true, or_false, if_false, word, nums, nats, zv, nv, bv, sv, VL, VB, BEq.rfl, V1, V2, V3, V4, V5, V6, V7, V8, V9, V10, V11, V12, V13, VE, Nat.reduceBEq, Nat.reduceAdd, Nat.reduceSub, Nat.reduceMul, Nat.reduceLeDiff, Nat.reduceLT, Nat.reduceEqDiff, Int.reduceBEq, Int.reduceBNe, Int.reduceLT, Int.reduceLE, Int.reduceAdd, Int.reduceSub, Int.reduceMul, kAgg, scD, List.all_cons, List.all_nil]
    · rw [st5]
      simp only [e0, word, nums, nats, zv, nv, bv, sv, VL, VB, BEq.rfl, V1, V2, V3, V4, V5, V6, V7, V8, V9, V10, V11, V12, V13, VE, Nat.reduceBEq, Nat.reduceAdd, Nat.reduceSub, Nat.reduceMul, Nat.reduceLeDiff, Nat.reduceLT, Nat.reduceEqDiff, Int.reduceBEq, Int.reduceBNe, Int.reduceLT, Int.reduceLE, Int.reduceAdd, Int.reduceSub, Int.reduceMul, kAgg, scD, List.all_cons, List.all_nil]
      refine LoopVC.mk (Y := Nat) (fun k => k ≤ hv.length ∧ (hv.take k).any id = false) (fun k => ⟨[(8, .c (bols hv)), (10, nv hv.length), (11, nv k)], []⟩) (fun k => hv.length - k) ⟨0, Enter.id ?_, by omega, rfl⟩ ?_
      · simp only [bols, word, nums, nats, zv, nv, bv, sv, VL, VB, BEq.rfl, V1, V2, V3, V4, V5, V6, V7, V8, V9, V10, V11, V12, V13, VE, Nat.reduceBEq, Nat.reduceAdd, Nat.reduceSub, Nat.reduceMul, Nat.reduceLeDiff, Nat.reduceLT, Nat.reduceEqDiff, Int.reduceBEq, Int.reduceBNe, Int.reduceLT, Int.reduceLE, Int.reduceAdd, Int.reduceSub, Int.reduceMul, kAgg, scD, List.all_cons, List.all_nil]
        exact rfl
      rintro k ⟨hk, hpre⟩
      simp only [lt_nat, bols, word, nums, nats, zv, nv, bv, sv, VL, VB, BEq.rfl, V1, V2, V3, V4, V5, V6, V7, V8, V9, V10, V11, V12, V13, VE, Nat.reduceBEq, Nat.reduceAdd, Nat.reduceSub, Nat.reduceMul, Nat.reduceLeDiff, Nat.reduceLT, Nat.reduceEqDiff, Int.reduceBEq, Int.reduceBNe, Int.reduceLT, Int.reduceLE, Int.reduceAdd, Int.reduceSub, Int.reduceMul, kAgg, scD, List.all_cons, List.all_nil]
      refine guardB.mk (fun h => ?_) (fun h => ?_)
      · have hk' : k < hv.length := by simpa using h
        clear h
        have hts := any_take_succ hk'
        rw [hpre, Bool.false_or] at hts
        have hf := firstH_at hk' hpre
        have hgk := getD_bol hv k hk'
        obtain ⟨b, hb⟩ : ∃ b, hv.getD k false = b := ⟨_, rfl⟩
        rw [hb] at hgk hts hf
        simp only [hgk, bol_def, word, nums, nats, zv, nv, bv, sv, VL, VB, BEq.rfl, V1, V2, V3, V4, V5, V6, V7, V8, V9, V10, V11, V12, V13, VE, Nat.reduceBEq, Nat.reduceAdd, Nat.reduceSub, Nat.reduceMul, Nat.reduceLeDiff, Nat.reduceLT, Nat.reduceEqDiff, Int.reduceBEq, Int.reduceBNe, Int.reduceLT, Int.reduceLE, Int.reduceAdd, Int.reduceSub, Int.reduceMul, kAgg, scD, List.all_cons, List.all_nil]
        refine ⟨⟨Int.natCast_nonneg _, by omega⟩, ?_⟩
        cases b with
        | true => simp only [hf rfl, word, nums, nats, zv, nv, bv, sv, VL, VB, BEq.rfl, V1, V2, V3, V4, V5, V6, V7, V8, V9, V10, V11, V12, V13, VE, Nat.reduceBEq, Nat.reduceAdd, Nat.reduceSub, Nat.reduceMul, Nat.reduceLeDiff, Nat.reduceLT, Nat.reduceEqDiff, Int.reduceBEq, Int.reduceBNe, Int.reduceLT, Int.reduceLE, Int.reduceAdd, Int.reduceSub, Int.reduceMul, kAgg, scD, List.all_cons, List.all_nil]
        | false =>
          simp only [wrap_nat (k := k) (by omega), word, nums, nats, zv, nv, bv, sv, VL, VB, BEq.rfl, V1, V2, V3, V4, V5, V6, V7, V8, V9, V10, V11, V12, V13, VE, Nat.reduceBEq, Nat.reduceAdd, Nat.reduceSub, Nat.reduceMul, Nat.reduceLeDiff, Nat.reduceLT, Nat.reduceEqDiff, Int.reduceBEq, Int.reduceBNe, Int.reduceLT, Int.reduceLE, Int.reduceAdd, Int.reduceSub, Int.reduceMul, kAgg, scD, List.all_cons, List.all_nil]
          refine ⟨k + 1, Enter.id ?_, ⟨by omega, hts⟩, by show hv.length - (k + 1) < hv.length - k; omega⟩
          simp only [word, nums, nats, zv, nv, bv, sv, VL, VB, BEq.rfl, V1, V2, V3, V4, V5, V6, V7, V8, V9, V10, V11, V12, V13, VE, Nat.reduceBEq, Nat.reduceAdd, Nat.reduceSub, Nat.reduceMul, Nat.reduceLeDiff, Nat.reduceLT, Nat.reduceEqDiff, Int.reduceBEq, Int.reduceBNe, Int.reduceLT, Int.reduceLE, Int.reduceAdd, Int.reduceSub, Int.reduceMul, kAgg, scD, List.all_cons, List.all_nil]
      · have hk' : k = hv.length := by
          have : ¬ k < hv.length := by simpa using h
          omega
        rw [hk', List.take_length] at hpre
        simp only [firstH, hpre, word, nums, nats, zv, nv, bv, sv, VL, VB, BEq.rfl, V1, V2, V3, V4, V5, V6, V7, V8, V9, V10, V11, V12, V13, VE, Nat.reduceBEq, Nat.reduceAdd, Nat.reduceSub, Nat.reduceMul, Nat.reduceLeDiff, Nat.reduceLT, Nat.reduceEqDiff, Int.reduceBEq, Int.reduceBNe, Int.reduceLT, Int.reduceLE, Int.reduceAdd, Int.reduceSub, Int.reduceMul, kAgg, scD, List.all_cons, List.all_nil]
        rfl
    · rw [st6]
      have e1 : IntKind.i64.wrap ((hv.length : Int) - 1) = (hv.length : Int) - 1 := wrap_in (by omega) (by omega)
      simp only [e0, e1, word, nums, nats, zv, nv, bv, sv, VL, VB, BEq.rfl, V1, V2, V3, V4, V5, V6, V7, V8, V9, V10, V11, V12, V13, VE, Nat.reduceBEq, Nat.reduceAdd, Nat.reduceSub, Nat.reduceMul, Nat.reduceLeDiff, Nat.reduceLT, Nat.reduceEqDiff, Int.reduceBEq, Int.reduceBNe, Int.reduceLT, Int.reduceLE, Int.reduceAdd, Int.reduceSub, Int.reduceMul, kAgg, scD, List.all_cons, List.all_nil]
      refine LoopVC.mk (Y := Nat) (fun k => k ≤ hv.length ∧ lastTo hv hv.length = lastTo hv k) (fun k => ⟨[(8, .c (bols hv)), (10, nv hv.length), (12, zv ((k : Int) - 1))], []⟩) (fun k => k) ⟨hv.length, Enter.id ?_, by omega, rfl⟩ ?_
      · simp only [bols, word, nums, nats, zv, nv, bv, sv, VL, VB, BEq.rfl, V1, V2, V3, V4, V5, V6, V7, V8, V9, V10, V11, V12, V13, VE, Nat.reduceBEq, Nat.reduceAdd, Nat.reduceSub, Nat.reduceMul, Nat.reduceLeDiff, Nat.reduceLT, Nat.reduceEqDiff, Int.reduceBEq, Int.reduceBNe, Int.reduceLT, Int.reduceLE, Int.reduceAdd, Int.reduceSub, Int.reduceMul, kAgg, scD, List.all_cons, List.all_nil]
      rintro k ⟨hk, hpre⟩
      have e5 : decide ((0 : Int) ≤ (k : Int) - 1) = decide (0 < k) := by congr 1; exact propext ⟨fun h => by omega, fun h => by omega⟩
      simp only [e5, bols, word, nums, nats, zv, nv, bv, sv, VL, VB, BEq.rfl, V1, V2, V3, V4, V5, V6, V7, V8, V9, V10, V11, V12, V13, VE, Nat.reduceBEq, Nat.reduceAdd, Nat.reduceSub, Nat.reduceMul, Nat.reduceLeDiff, Nat.reduceLT, Nat.reduceEqDiff, Int.reduceBEq, Int.reduceBNe, Int.reduceLT, Int.reduceLE, Int.reduceAdd, Int.reduceSub, Int.reduceMul, kAgg, scD, List.all_cons, List.all_nil]
      refine guardB.mk (fun h => ?_) (fun h => ?_)
      · have hk' : 0 < k := by simpa using h
        clear h
        obtain ⟨j, rfl⟩ : ∃ j, k = j + 1 := ⟨k - 1, by omega⟩
        have ej : ((j + 1 : Nat) : Int) - 1 = (j : Int) := by omega
        rw [lastTo] at hpre
        have hgk := getD_bol hv j (by omega)
        obtain ⟨b, hb⟩ : ∃ b, hv.getD j false = b := ⟨_, rfl⟩
        rw [hb] at hgk hpre
        have e6 : IntKind.i64.wrap ((j : Int) - 1) = (j : Int) - 1 := wrap_in (by omega) (by omega)
        simp only [ej, hgk, bol_def, word, nums, nats, zv, nv, bv, sv, VL, VB, BEq.rfl, V1, V2, V3, V4, V5, V6, V7, V8, V9, V10, V11, V12, V13, VE, Nat.reduceBEq, Nat.reduceAdd, Nat.reduceSub, Nat.reduceMul, Nat.reduceLeDiff, Nat.reduceLT, Nat.reduceEqDiff, Int.reduceBEq, Int.reduceBNe, Int.reduceLT, Int.reduceLE, Int.reduceAdd, Int.reduceSub, Int.reduceMul, kAgg, scD, List.all_cons, List.all_nil]
        refine ⟨⟨Int.natCast_nonneg _, by omega⟩, ?_⟩
        cases b with
        | true =>
          rw [if_pos rfl] at hpre
          simp only [lastH, hpre, Option.getD_some, word, nums, nats, zv, nv, bv, sv, VL, VB, BEq.rfl, V1, V2, V3, V4, V5, V6, V7, V8, V9, V10, V11, V12, V13, VE, Nat.reduceBEq, Nat.reduceAdd, Nat.reduceSub, Nat.reduceMul, Nat.reduceLeDiff, Nat.reduceLT, Nat.reduceEqDiff, Int.reduceBEq, Int.reduceBNe, Int.reduceLT, Int.reduceLE, Int.reduceAdd, Int.reduceSub, Int.reduceMul, kAgg, scD, List.all_cons, List.all_nil]
        | false =>
          rw [if_neg (by simp)] at hpre
          simp only [e6, word, nums, nats, zv, nv, bv, sv, VL, VB, BEq.rfl, V1, V2, V3, V4, V5, V6, V7, V8, V9, V10, V11, V12, V13, VE, Nat.reduceBEq, Nat.reduceAdd, Nat.reduceSub, Nat.reduceMul, Nat.reduceLeDiff, Nat.reduceLT, Nat.reduceEqDiff, Int.reduceBEq, Int.reduceBNe, Int.reduceLT, Int.reduceLE, Int.reduceAdd, Int.reduceSub, Int.reduceMul, kAgg, scD, List.all_cons, List.all_nil]
          refine ⟨j, Enter.id ?_, ⟨by omega, hpre⟩, Nat.lt_succ_self j⟩
          simp only [word, nums, nats, zv, nv, bv, sv, VL, VB, BEq.rfl, V1, V2, V3, V4, V5, V6, V7, V8, V9, V10, V11, V12, V13, VE, Nat.reduceBEq, Nat.reduceAdd, Nat.reduceSub, Nat.reduceMul, Nat.reduceLeDiff, Nat.reduceLT, Nat.reduceEqDiff, Int.reduceBEq, Int.reduceBNe, Int.reduceLT, Int.reduceLE, Int.reduceAdd, Int.reduceSub, Int.reduceMul, kAgg, scD, List.all_cons, List.all_nil]
      · have hk' : k = 0 := by
          have : ¬ 0 < k := by simpa using h
          omega
        rw [hk', lastTo] at hpre
        have e7 : (hv.length : Int) - 1 = ((hv.length - 1 : Nat) : Int) := by omega
        have e8 : IntKind.i64.wrap ((hv.length - 1 : Nat) : Int) = ((hv.length - 1 : Nat) : Int) := wrap_in (by omega) (by omega)
        simp only [lastH, hpre, Option.getD_none, e7, e8, word, nums, nats, zv, nv, bv, sv, VL, VB, BEq.rfl, V1, V2, V3, V4, V5, V6, V7, V8, V9, V10, V11, V12, V13, VE, Nat.reduceBEq, Nat.reduceAdd, Nat.reduceSub, Nat.reduceMul, Nat.reduceLeDiff, Nat.reduceLT, Nat.reduceEqDiff, Int.reduceBEq, Int.reduceBNe, Int.reduceLT, Int.reduceLE, Int.reduceAdd, Int.reduceSub, Int.reduceMul, kAgg, scD, List.all_cons, List.all_nil]
  · have h1 : (checkE sc p [w] != 0) = true := by simpa using hc
    have h2 : ¬ stressE sc p w mode = 0 := by rw [stressE, if_neg hc]; exact hc
    rw [if_neg h2, stressE, if_neg hc]
    simp only [h1, word, nums, nats, zv, nv, bv, sv, VL, VB, BEq.rfl, V1, V2, V3, V4, V5, V6, V7, V8, V9, V10, V11, V12, V13, VE, Nat.reduceBEq, Nat.reduceAdd, Nat.reduceSub, Nat.reduceMul, Nat.reduceLeDiff, Nat.reduceLT, Nat.reduceEqDiff, Int.reduceBEq, Int.reduceBNe, Int.reduceLT, Int.reduceLE, Int.reduceAdd, Int.reduceSub, Int.reduceMul, kAgg, scD, List.all_cons, List.all_nil]
    rfl
end Go.Cp
end

section
set_option linter.unusedVariables false
set_option linter.unusedSimpArgs false
set_option maxHeartbeats 4000000
set_option maxRecDepth 10000
namespace Go.Cp
open Go Go.Proofs Go.Vx

theorem take_succ_eq {α : Type} {xs ys : List α} {k : Nat} (z : α) (hx : k < xs.length) (hy : k < ys.length) (h : xs.take k = ys.take k) (he : xs.getD k z = ys.getD k z) : xs.take (k + 1) = ys.take (k + 1) := by
  rw [List.take_add_one, List.take_add_one, h]
  simp only [List.getD, List.getElem?_eq_getElem hx, List.getElem?_eq_getElem hy, Option.getD_some] at he
  rw [List.getElem?_eq_getElem hx, List.getElem?_eq_getElem hy, he]
theorem sequal_ok (xs ys : List Snd) : Ok Try.prog E 66 [.c (word xs), .c (word ys)] (bv (decide (xs = ys))) := by
  refine ok_of_vc (L := []) (ts := [4]) envOK mixed Try.func66 rfl (by kernel_rfl) rfl (by kernel_rfl) rfl fun hl => ?_
  have hlen := len_of (hl _ (List.mem_cons_self ..))
  rw [List.length_map] at hlen
  have e2 : ((xs.length : Int) != (ys.length : Int)) = !decide (xs.length = ys.length) := by
    rw [bne, int_beq]; congr 2; exact propext ⟨fun h => by omega, fun h => by omega⟩
  simp only [Try.f66, e2, word, nums, nats, zv, nv, bv, sv, VL, VB, BEq.rfl, V1, V2, V3, V4, V5, V6, V7, V8, V9, V10, V11, V12, V13, VE, Nat.reduceBEq, Nat.reduceAdd, Nat.reduceSub, Nat.reduceMul, Nat.reduceLeDiff, Nat.reduceLT, Nat.reduceEqDiff, Int.reduceBEq, Int.reduceBNe, Int.reduceLT, Int.reduceLE, Int.reduceAdd, Int.reduceSub, Int.reduceMul, kAgg, scD, List.all_cons, List.all_nil]
  refine guardB.mk (fun h => ?_) (fun h => ?_) <;> simp only [h, word, nums, nats, zv, nv, bv, sv, VL, VB, BEq.rfl, V1, V2, V3, V4, V5, V6, V7, V8, V9, V10, V11, V12, V13, VE, Nat.reduceBEq, Nat.reduceAdd, Nat.reduceSub, Nat.reduceMul, Nat.reduceLeDiff, Nat.reduceLT, Nat.reduceEqDiff, Int.reduceBEq, Int.reduceBNe, Int.reduceLT, Int.reduceLE, Int.reduceAdd, Int.reduceSub, Int.reduceMul, kAgg, scD, List.all_cons, List.all_nil]
  · have h : xs.length ≠ ys.length := by simpa using h
    have hne : xs ≠ ys := fun e => h (by rw [e])
    simp only [decide_eq_false hne, word, nums, nats, zv, nv, bv, sv, VL, VB, BEq.rfl, V1, V2, V3, V4, V5, V6, V7, V8, V9, V10, V11, V12, V13, VE, Nat.reduceBEq, Nat.reduceAdd, Nat.reduceSub, Nat.reduceMul, Nat.reduceLeDiff, Nat.reduceLT, Nat.reduceEqDiff, Int.reduceBEq, Int.reduceBNe, Int.reduceLT, Int.reduceLE, Int.reduceAdd, Int.reduceSub, Int.reduceMul, kAgg, scD, List.all_cons, List.all_nil]
  have hxy : xs.length = ys.length := by simpa using h
  clear h
  refine LoopVC.mk (Y := Nat) (fun k => k ≤ xs.length ∧ xs.take k = ys.take k) (fun k => ⟨[(0, .c (word xs)), (1, .c (word ys)), (12, nv xs.length), (13, nv k)], []⟩) (fun k => xs.length - k) ⟨0, Enter.id ?_, by omega, rfl⟩ ?_
  · simp only [word, nums, nats, zv, nv, bv, sv, VL, VB, BEq.rfl, V1, V2, V3, V4, V5, V6, V7, V8, V9, V10, V11, V12, V13, VE, Nat.reduceBEq, Nat.reduceAdd, Nat.reduceSub, Nat.reduceMul, Nat.reduceLeDiff, Nat.reduceLT, Nat.reduceEqDiff, Int.reduceBEq, Int.reduceBNe, Int.reduceLT, Int.reduceLE, Int.reduceAdd, Int.reduceSub, Int.reduceMul, kAgg, scD, List.all_cons, List.all_nil]
    try rfl
  rintro k ⟨hk, hpre⟩
  simp only [lt_nat, word, nums, nats, zv, nv, bv, sv, VL, VB, BEq.rfl, V1, V2, V3, V4, V5, V6, V7, V8, V9, V10, V11, V12, V13, VE, Nat.reduceBEq, Nat.reduceAdd, Nat.reduceSub, Nat.reduceMul, Nat.reduceLeDiff, Nat.reduceLT, Nat.reduceEqDiff, Int.reduceBEq, Int.reduceBNe, Int.reduceLT, Int.reduceLE, Int.reduceAdd, Int.reduceSub, Int.reduceMul, kAgg, scD, List.all_cons, List.all_nil]
  refine guardB.mk (fun h => ?_) (fun h => ?_)
  · have hk' : k < xs.length := by simpa using h
    clear h
    have hn := take_succ_eq Snd.zero hk' (show k < ys.length by omega) hpre
    have hb : xs.getD k Snd.zero ≠ ys.getD k Snd.zero → xs ≠ ys := fun h e => h (by rw [e])
    obtain ⟨x, hx⟩ : ∃ x, xs.getD k Snd.zero = x := ⟨_, rfl⟩
    obtain ⟨y, hy⟩ : ∃ y, ys.getD k Snd.zero = y := ⟨_, rfl⟩
    rw [hx, hy] at hn hb
    simp only [getD_snd xs k hk', getD_snd ys k (by omega), hx, hy, snd_def, snd_beq, word, nums, nats, zv, nv, bv, sv, VL, VB, BEq.rfl, V1, V2, V3, V4, V5, V6, V7, V8, V9, V10, V11, V12, V13, VE, Nat.reduceBEq, Nat.reduceAdd, Nat.reduceSub, Nat.reduceMul, Nat.reduceLeDiff, Nat.reduceLT, Nat.reduceEqDiff, Int.reduceBEq, Int.reduceBNe, Int.reduceLT, Int.reduceLE, Int.reduceAdd, Int.reduceSub, Int.reduceMul, kAgg, scD, List.all_cons, List.all_nil]
    refine ⟨⟨Int.natCast_nonneg k, by omega⟩, ⟨Int.natCast_nonneg k, by omega⟩, ?_⟩
    refine guardB.mk (fun h => ?_) (fun h => ?_) <;> simp only [h, wrap_nat (k := k) (by omega), word, nums, nats, zv, nv, bv, sv, VL, VB, BEq.rfl, V1, V2, V3, V4, V5, V6, V7, V8, V9, V10, V11, V12, V13, VE, Nat.reduceBEq, Nat.reduceAdd, Nat.reduceSub, Nat.reduceMul, Nat.reduceLeDiff, Nat.reduceLT, Nat.reduceEqDiff, Int.reduceBEq, Int.reduceBNe, Int.reduceLT, Int.reduceLE, Int.reduceAdd, Int.reduceSub, Int.reduceMul, kAgg, scD, List.all_cons, List.all_nil]
    · have h : x ≠ y := by simpa using h
      simp only [decide_eq_false (hb h), word, nums, nats, zv, nv, bv, sv, VL, VB, BEq.rfl, V1, V2, V3, V4, V5, V6, V7, V8, V9, V10, V11, V12, V13, VE, Nat.reduceBEq, Nat.reduceAdd, Nat.reduceSub, Nat.reduceMul, Nat.reduceLeDiff, Nat.reduceLT, Nat.reduceEqDiff, Int.reduceBEq, Int.reduceBNe, Int.reduceLT, Int.reduceLE, Int.reduceAdd, Int.reduceSub, Int.reduceMul, kAgg, scD, List.all_cons, List.all_nil]
    · have h : x = y := by simpa using h
      refine ⟨k + 1, Enter.id ?_, ⟨by omega, hn h⟩, by show xs.length - (k + 1) < xs.length - k; omega⟩
      simp only [word, nums, nats, zv, nv, bv, sv, VL, VB, BEq.rfl, V1, V2, V3, V4, V5, V6, V7, V8, V9, V10, V11, V12, V13, VE, Nat.reduceBEq, Nat.reduceAdd, Nat.reduceSub, Nat.reduceMul, Nat.reduceLeDiff, Nat.reduceLT, Nat.reduceEqDiff, Int.reduceBEq, Int.reduceBNe, Int.reduceLT, Int.reduceLE, Int.reduceAdd, Int.reduceSub, Int.reduceMul, kAgg, scD, List.all_cons, List.all_nil]
  · have hk' : k = xs.length := by
      have : ¬ k < xs.length := by simpa using h
      omega
    subst hk'
    have he : xs = ys := by
      rw [List.take_length, hxy, List.take_length] at hpre; exact hpre
    simp only [decide_eq_true he, word, nums, nats, zv, nv, bv, sv, VL, VB, BEq.rfl, V1, V2, V3, V4, V5, V6, V7, V8, V9, V10, V11, V12, V13, VE, Nat.reduceBEq, Nat.reduceAdd, Nat.reduceSub, Nat.reduceMul, Nat.reduceLeDiff, Nat.reduceLT, Nat.reduceEqDiff, Int.reduceBEq, Int.reduceBNe, Int.reduceLT, Int.reduceLE, Int.reduceAdd, Int.reduceSub, Int.reduceMul, kAgg, scD, List.all_cons, List.all_nil]
theorem requal_ok (xs ys : List Snd) : Ok Try.prog E 54 [.c (word xs), .c (word ys)] (bv (decide (xs = ys))) := by
  refine ok_of_vc (L := []) (ts := [4]) envOK mixed Try.func54 rfl (by kernel_rfl) rfl (by kernel_rfl) rfl fun hl => ?_
  have hlen := len_of (hl _ (List.mem_cons_self ..))
  rw [List.length_map] at hlen
  have e2 : ((xs.length : Int) != (ys.length : Int)) = !decide (xs.length = ys.length) := by
    rw [bne, int_beq]; congr 2; exact propext ⟨fun h => by omega, fun h => by omega⟩
  simp only [Try.f54, e2, word, nums, nats, zv, nv, bv, sv, VL, VB, BEq.rfl, V1, V2, V3, V4, V5, V6, V7, V8, V9, V10, V11, V12, V13, VE, Nat.reduceBEq, Nat.reduceAdd, Nat.reduceSub, Nat.reduceMul, Nat.reduceLeDiff, Nat.reduceLT, Nat.reduceEqDiff, Int.reduceBEq, Int.reduceBNe, Int.reduceLT, Int.reduceLE, Int.reduceAdd, Int.reduceSub, Int.reduceMul, kAgg, scD, List.all_cons, List.all_nil]
  refine guardB.mk (fun h => ?_) (fun h => ?_) <;> simp only [h, word, nums, nats, zv, nv, bv, sv, VL, VB, BEq.rfl, V1, V2, V3, V4, V5, V6, V7, V8, V9, V10, V11, V12, V13, VE, Nat.reduceBEq, Nat.reduceAdd, Nat.reduceSub, Nat.reduceMul, Nat.reduceLeDiff, Nat.reduceLT, Nat.reduceEqDiff, Int.reduceBEq, Int.reduceBNe, Int.reduceLT, Int.reduceLE, Int.reduceAdd, Int.reduceSub, Int.reduceMul, kAgg, scD, List.all_cons, List.all_nil]
  · have h : xs.length ≠ ys.length := by simpa using h
    have hne : xs ≠ ys := fun e => h (by rw [e])
    simp only [decide_eq_false hne, word, nums, nats, zv, nv, bv, sv, VL, VB, BEq.rfl, V1, V2, V3, V4, V5, V6, V7, V8, V9, V10, V11, V12, V13, VE, Nat.reduceBEq, Nat.reduceAdd, Nat.reduceSub, Nat.reduceMul, Nat.reduceLeDiff, Nat.reduceLT, Nat.reduceEqDiff, Int.reduceBEq, Int.reduceBNe, Int.reduceLT, Int.reduceLE, Int.reduceAdd, Int.reduceSub, Int.reduceMul, kAgg, scD, List.all_cons, List.all_nil]
  have hxy : xs.length = ys.length := by simpa using h
  clear h
  refine LoopVC.mk (Y := Nat) (fun k => k ≤ xs.length ∧ xs.take k = ys.take k) (fun k => ⟨[(0, .c (word xs)), (1, .c (word ys)), (5, nv k)], []⟩) (fun k => xs.length - k) ⟨0, Enter.id ?_, by omega, rfl⟩ ?_
  · simp only [word, nums, nats, zv, nv, bv, sv, VL, VB, BEq.rfl, V1, V2, V3, V4, V5, V6, V7, V8, V9, V10, V11, V12, V13, VE, Nat.reduceBEq, Nat.reduceAdd, Nat.reduceSub, Nat.reduceMul, Nat.reduceLeDiff, Nat.reduceLT, Nat.reduceEqDiff, Int.reduceBEq, Int.reduceBNe, Int.reduceLT, Int.reduceLE, Int.reduceAdd, Int.reduceSub, Int.reduceMul, kAgg, scD, List.all_cons, List.all_nil]
    try rfl
  rintro k ⟨hk, hpre⟩
  simp only [lt_nat, word, nums, nats, zv, nv, bv, sv, VL, VB, BEq.rfl, V1, V2, V3, V4, V5, V6, V7, V8, V9, V10, V11, V12, V13, VE, Nat.reduceBEq, Nat.reduceAdd, Nat.reduceSub, Nat.reduceMul, Nat.reduceLeDiff, Nat.reduceLT, Nat.reduceEqDiff, Int.reduceBEq, Int.reduceBNe, Int.reduceLT, Int.reduceLE, Int.reduceAdd, Int.reduceSub, Int.reduceMul, kAgg, scD, List.all_cons, List.all_nil]
  refine guardB.mk (fun h => ?_) (fun h => ?_)
  · have hk' : k < xs.length := by simpa using h
    clear h
    have hn := take_succ_eq Snd.zero hk' (show k < ys.length by omega) hpre
    have hb : xs.getD k Snd.zero ≠ ys.getD k Snd.zero → xs ≠ ys := fun h e => h (by rw [e])
    obtain ⟨x, hx⟩ : ∃ x, xs.getD k Snd.zero = x := ⟨_, rfl⟩
    obtain ⟨y, hy⟩ : ∃ y, ys.getD k Snd.zero = y := ⟨_, rfl⟩
    rw [hx, hy] at hn hb
    simp only [getD_snd xs k hk', getD_snd ys k (by omega), hx, hy, snd_def, snd_beq, word, nums, nats, zv, nv, bv, sv, VL, VB, BEq.rfl, V1, V2, V3, V4, V5, V6, V7, V8, V9, V10, V11, V12, V13, VE, Nat.reduceBEq, Nat.reduceAdd, Nat.reduceSub, Nat.reduceMul, Nat.reduceLeDiff, Nat.reduceLT, Nat.reduceEqDiff, Int.reduceBEq, Int.reduceBNe, Int.reduceLT, Int.reduceLE, Int.reduceAdd, Int.reduceSub, Int.reduceMul, kAgg, scD, List.all_cons, List.all_nil]
    refine ⟨⟨Int.natCast_nonneg k, by omega⟩, ⟨Int.natCast_nonneg k, by omega⟩, ?_⟩
    refine guardB.mk (fun h => ?_) (fun h => ?_) <;> simp only [h, wrap_nat (k := k) (by omega), word, nums, nats, zv, nv, bv, sv, VL, VB, BEq.rfl, V1, V2, V3, V4, V5, V6, V7, V8, V9, V10, V11, V12, V13, VE, Nat.reduceBEq, Nat.reduceAdd, Nat.reduceSub, Nat.reduceMul, Nat.reduceLeDiff, Nat.reduceLT, Nat.reduceEqDiff, Int.reduceBEq, Int.reduceBNe, Int.reduceLT, Int.reduceLE, Int.reduceAdd, Int.reduceSub, Int.reduceMul, kAgg, scD, List.all_cons, List.all_nil]
    · have h : x ≠ y := by simpa using h
      simp only [decide_eq_false (hb h), word, nums, nats, zv, nv, bv, sv, VL, VB, BEq.rfl, V1, V2, V3, V4, V5, V6, V7, V8, V9, V10, V11, V12, V13, VE, Nat.reduceBEq, Nat.reduceAdd, Nat.reduceSub, Nat.reduceMul, Nat.reduceLeDiff, Nat.reduceLT, Nat.reduceEqDiff, Int.reduceBEq, Int.reduceBNe, Int.reduceLT, Int.reduceLE, Int.reduceAdd, Int.reduceSub, Int.reduceMul, kAgg, scD, List.all_cons, List.all_nil]
    · have h : x = y := by simpa using h
      refine ⟨k + 1, Enter.id ?_, ⟨by omega, hn h⟩, by show xs.length - (k + 1) < xs.length - k; omega⟩
      simp only [word, nums, nats, zv, nv, bv, sv, VL, VB, BEq.rfl, V1, V2, V3, V4, V5, V6, V7, V8, V9, V10, V11, V12, V13, VE, Nat.reduceBEq, Nat.reduceAdd, Nat.reduceSub, Nat.reduceMul, Nat.reduceLeDiff, Nat.reduceLT, Nat.reduceEqDiff, Int.reduceBEq, Int.reduceBNe, Int.reduceLT, Int.reduceLE, Int.reduceAdd, Int.reduceSub, Int.reduceMul, kAgg, scD, List.all_cons, List.all_nil]
  · have hk' : k = xs.length := by
      have : ¬ k < xs.length := by simpa using h
      omega
    subst hk'
    have he : xs = ys := by
      rw [List.take_length, hxy, List.take_length] at hpre; exact hpre
    simp only [decide_eq_true he, word, nums, nats, zv, nv, bv, sv, VL, VB, BEq.rfl, V1, V2, V3, V4, V5, V6, V7, V8, V9, V10, V11, V12, V13, VE, Nat.reduceBEq, Nat.reduceAdd, Nat.reduceSub, Nat.reduceMul, Nat.reduceLeDiff, Nat.reduceLT, Nat.reduceEqDiff, Int.reduceBEq, Int.reduceBNe, Int.reduceLT, Int.reduceLE, Int.reduceAdd, Int.reduceSub, Int.reduceMul, kAgg, scD, List.all_cons, List.all_nil]
theorem equal_ok (xs ys : List Snd) : Ok Try.prog E 52 [.c (word xs), .c (word ys)] (bv (decide (xs = ys))) := by
  refine ok_of_vc (L := []) (ts := [4]) envOK mixed Try.func52 rfl (by kernel_rfl) rfl (by kernel_rfl) rfl fun hl => ?_
  simp only [Try.f52, word, nums, nats, zv, nv, bv, sv, VL, VB, BEq.rfl, V1, V2, V3, V4, V5, V6, V7, V8, V9, V10, V11, V12, V13, VE, Nat.reduceBEq, Nat.reduceAdd, Nat.reduceSub, Nat.reduceMul, Nat.reduceLeDiff, Nat.reduceLT, Nat.reduceEqDiff, Int.reduceBEq, Int.reduceBNe, Int.reduceLT, Int.reduceLE, Int.reduceAdd, Int.reduceSub, Int.reduceMul, kAgg, scD, List.all_cons, List.all_nil]
  refine CallX.mk (sequal_ok xs ys) rfl ?_
  simp only [word, nums, nats, zv, nv, bv, sv, VL, VB, BEq.rfl, V1, V2, V3, V4, V5, V6, V7, V8, V9, V10, V11, V12, V13, VE, Nat.reduceBEq, Nat.reduceAdd, Nat.reduceSub, Nat.reduceMul, Nat.reduceLeDiff, Nat.reduceLT, Nat.reduceEqDiff, Int.reduceBEq, Int.reduceBNe, Int.reduceLT, Int.reduceLE, Int.reduceAdd, Int.reduceSub, Int.reduceMul, kAgg, scD, List.all_cons, List.all_nil]

def backN (l : List Nat) : List (List AV) := (List.range l.length).map fun k => [nv (l.length - 1 - k), nv (l.getD (l.length - 1 - k) 0)]
theorem backN_len (l : List Nat) : (backN l).length = l.length := by simp [backN]
theorem backN_get {l : List Nat} {k : Nat} (h : k < l.length) : (backN l)[k]? = some [nv (l.length - 1 - k), nv (l.getD (l.length - 1 - k) 0)] := by simp [backN, h]
theorem BackwardN_ok (l : List Nat) : OkM Try.prog E 65 [.c (nats l)] [] (.fn 73 [.bp 2001 0]) [(2001, .cells [.c (nats l)])] := by
  refine okM_of_vc (L := []) (ts := [2]) envOK mixed Try.func65 rfl (by kernel_rfl) rfl (by decide) (by kernel_rfl) rfl fun hl hlb => ?_
  simp only [Try.f65, word, nums, nats, zv, nv, bv, sv, VL, VB, BEq.rfl, V1, V2, V3, V4, V5, V6, V7, V8, V9, V10, V11, V12, V13, VE, Nat.reduceBEq, Nat.reduceAdd, Nat.reduceSub, Nat.reduceMul, Nat.reduceLeDiff, Nat.reduceLT, Nat.reduceEqDiff, Int.reduceBEq, Int.reduceBNe, Int.reduceLT, Int.reduceLE, Int.reduceAdd, Int.reduceSub, Int.reduceMul, kAgg, scD, List.all_cons, List.all_nil]
  refine Enter.mk [] [] [(2001, 1)] ?_
  simp only [word, nums, nats, zv, nv, bv, sv, VL, VB, BEq.rfl, V1, V2, V3, V4, V5, V6, V7, V8, V9, V10, V11, V12, V13, VE, Nat.reduceBEq, Nat.reduceAdd, Nat.reduceSub, Nat.reduceMul, Nat.reduceLeDiff, Nat.reduceLT, Nat.reduceEqDiff, Int.reduceBEq, Int.reduceBNe, Int.reduceLT, Int.reduceLE, Int.reduceAdd, Int.reduceSub, Int.reduceMul, kAgg, scD, List.all_cons, List.all_nil]
theorem backN_seq (w : List Nat) (hn : w.length ≤ 63) : SeqM Try.prog E 73 [.bp 2001 0] [(2001, .cells [.c (nats w)])] (backN w) := by
  refine seqM_of_vc (L := []) envOK mixed Try.func73 rfl (by kernel_rfl) rfl (by kernel_rfl) rfl fun hl l => ?_
  have hw0 : IntKind.i64.wrap ((w.length : Int) - 1) = (w.length : Int) - 1 := wrap_in (by omega) (by omega)
  simp only [Try.f73, hw0, word, nums, nats, zv, nv, bv, sv, VL, VB, BEq.rfl, V1, V2, V3, V4, V5, V6, V7, V8, V9, V10, V11, V12, V13, VE, Nat.reduceBEq, Nat.reduceAdd, Nat.reduceSub, Nat.reduceMul, Nat.reduceLeDiff, Nat.reduceLT, Nat.reduceEqDiff, Int.reduceBEq, Int.reduceBNe, Int.reduceLT, Int.reduceLE, Int.reduceAdd, Int.reduceSub, Int.reduceMul, kAgg, scD, List.all_cons, List.all_nil]
  refine LoopY.mk (Y := Nat) (fun k => k ≤ w.length) some (fun k => ⟨[(0, yieldV l), (1, .bp 2001 0), (3, zv ((w.length : Int) - 1 - (k : Int)))], [(2001, .cells [.c (nats w)])]⟩) (fun k => w.length - k) ⟨0, rfl, Enter.id ?_, by omega⟩ ?_
  · have e0 : (w.length : Int) - 1 - ((0 : Nat) : Int) = (w.length : Int) - 1 := by omega
    simp only [yieldV, e0, word, nums, nats, zv, nv, bv, sv, VL, VB, BEq.rfl, V1, V2, V3, V4, V5, V6, V7, V8, V9, V10, V11, V12, V13, VE, Nat.reduceBEq, Nat.reduceAdd, Nat.reduceSub, Nat.reduceMul, Nat.reduceLeDiff, Nat.reduceLT, Nat.reduceEqDiff, Int.reduceBEq, Int.reduceBNe, Int.reduceLT, Int.reduceLE, Int.reduceAdd, Int.reduceSub, Int.reduceMul, kAgg, scD, List.all_cons, List.all_nil]
  intro k hk
  have e1 : decide ((0 : Int) ≤ (w.length : Int) - 1 - (k : Int)) = decide (k < w.length) := by congr 1; exact propext ⟨fun h => by omega, fun h => by omega⟩
  simp only [yieldV, e1, word, nums, nats, zv, nv, bv, sv, VL, VB, BEq.rfl, V1, V2, V3, V4, V5, V6, V7, V8, V9, V10, V11, V12, V13, VE, Nat.reduceBEq, Nat.reduceAdd, Nat.reduceSub, Nat.reduceMul, Nat.reduceLeDiff, Nat.reduceLT, Nat.reduceEqDiff, Int.reduceBEq, Int.reduceBNe, Int.reduceLT, Int.reduceLE, Int.reduceAdd, Int.reduceSub, Int.reduceMul, kAgg, scD, List.all_cons, List.all_nil]
  refine guardB.mk (fun h => ?_) (fun h => ?_)
  · have hk' : k < w.length := by simpa using h
    clear h
    obtain ⟨v, hv⟩ : ∃ v, w.length - 1 - k = v := ⟨_, rfl⟩
    have hvi : (w.length : Int) - 1 - (k : Int) = (v : Int) := by omega
    have hget := backN_get hk'
    rw [hv] at hget
    have hw1 : IntKind.i64.wrap ((v : Int) - 1) = (w.length : Int) - 1 - ((k + 1 : Nat) : Int) := by rw [wrap_in (by omega) (by omega)]; omega
    simp only [hvi, getD_nat w v (by omega), nat_def, word, nums, nats, zv, nv, bv, sv, VL, VB, BEq.rfl, V1, V2, V3, V4, V5, V6, V7, V8, V9, V10, V11, V12, V13, VE, Nat.reduceBEq, Nat.reduceAdd, Nat.reduceSub, Nat.reduceMul, Nat.reduceLeDiff, Nat.reduceLT, Nat.reduceEqDiff, Int.reduceBEq, Int.reduceBNe, Int.reduceLT, Int.reduceLE, Int.reduceAdd, Int.reduceSub, Int.reduceMul, kAgg, scD, List.all_cons, List.all_nil]
    refine ⟨⟨Int.natCast_nonneg v, by omega⟩, ?_⟩
    refine YieldVC.mk (k := k) rfl hget ?_ ?_
    · simp only [hw1, word, nums, nats, zv, nv, bv, sv, VL, VB, BEq.rfl, V1, V2, V3, V4, V5, V6, V7, V8, V9, V10, V11, V12, V13, VE, Nat.reduceBEq, Nat.reduceAdd, Nat.reduceSub, Nat.reduceMul, Nat.reduceLeDiff, Nat.reduceLT, Nat.reduceEqDiff, Int.reduceBEq, Int.reduceBNe, Int.reduceLT, Int.reduceLE, Int.reduceAdd, Int.reduceSub, Int.reduceMul, kAgg, scD, List.all_cons, List.all_nil]
      refine ⟨k + 1, rfl, Enter.id ?_, by omega, by show w.length - (k + 1) < w.length - k; omega⟩
      simp only [word, nums, nats, zv, nv, bv, sv, VL, VB, BEq.rfl, V1, V2, V3, V4, V5, V6, V7, V8, V9, V10, V11, V12, V13, VE, Nat.reduceBEq, Nat.reduceAdd, Nat.reduceSub, Nat.reduceMul, Nat.reduceLeDiff, Nat.reduceLT, Nat.reduceEqDiff, Int.reduceBEq, Int.reduceBNe, Int.reduceLT, Int.reduceLE, Int.reduceAdd, Int.reduceSub, Int.reduceMul, kAgg, scD, List.all_cons, List.all_nil]
    · simp only [word, nums, nats, zv, nv, bv, sv, VL, VB, BEq.rfl, V1, V2, V3, V4, V5, V6, V7, V8, V9, V10, V11, V12, V13, VE, Nat.reduceBEq, Nat.reduceAdd, Nat.reduceSub, Nat.reduceMul, Nat.reduceLeDiff, Nat.reduceLT, Nat.reduceEqDiff, Int.reduceBEq, Int.reduceBNe, Int.reduceLT, Int.reduceLE, Int.reduceAdd, Int.reduceSub, Int.reduceMul, kAgg, scD, List.all_cons, List.all_nil]
  · have hk' : k = w.length := by
      have : ¬ k < w.length := by simpa using h
      omega
    subst hk'
    simp only [word, nums, nats, zv, nv, bv, sv, VL, VB, BEq.rfl, V1, V2, V3, V4, V5, V6, V7, V8, V9, V10, V11, V12, V13, VE, Nat.reduceBEq, Nat.reduceAdd, Nat.reduceSub, Nat.reduceMul, Nat.reduceLeDiff, Nat.reduceLT, Nat.reduceEqDiff, Int.reduceBEq, Int.reduceBNe, Int.reduceLT, Int.reduceLE, Int.reduceAdd, Int.reduceSub, Int.reduceMul, kAgg, scD, List.all_cons, List.all_nil]
    exact (backN_len _).symm

/-! the rhyme -/
/-- the last of the first k places that is a peak -/
def lastPk (p : Int) (lv : List Nat) : Nat → Option Nat
  | 0 => none
  | k + 1 => if p ≤ (lv.getD k 0 : Int) then some k else lastPk p lv k
def rhymeL (p : Int) (lv : List Nat) (w : List Snd) : List Snd :=
  match lastPk p lv lv.length with
  | some k => w.drop k
  | none => []
theorem lastPk_at {p : Int} {lv : List Nat} : ∀ k, lastPk p lv k = ((List.range k).filter fun i => decide (p ≤ (lv.getD i 0 : Int))).getLast?
  | 0 => rfl
  | k + 1 => by
    rw [lastPk, List.range_succ, List.filter_append, List.getLast?_append]
    by_cases h : p ≤ (lv.getD k 0 : Int)
    · rw [if_pos h, List.filter_cons_of_pos (by simpa using h)]; rfl
    · rw [if_neg h, List.filter_cons_of_neg (by simpa using h), lastPk_at k]; rfl
theorem lastPk_lt {p : Int} {lv : List Nat} {j : Nat} : ∀ k, lastPk p lv k = some j → j < k
  | 0, h => by rw [lastPk] at h; cases h
  | k + 1, h => by
    rw [lastPk] at h
    split at h
    · injection h with h; omega
    · have := lastPk_lt k h; omega
theorem allLen_snd (xs : List Snd) : AllLen 2 (xs.map Snd.enc) := by
  intro y hy
  obtain ⟨n, _, rfl⟩ := List.mem_map.1 hy
  rfl
theorem rhyme_ok (sc : List Snd) (p : Int) (w : List Snd) (hsc : AllIn sc) (hw : AllIn w) (hn : sc.length ≤ 12) (hl : w.length ≤ 32) : Ok Try.prog E 51 [.ag (ruleD sc p), .c (word w)] (.c (word (rhymeL p (lev sc w) w))) := by
  refine ok_of_vcC (L := []) (rs := [.cell 4 22]) envOK mixed Try.func51 rfl (by kernel_rfl) rfl (by kernel_rfl) rfl fun hla => ?_
  simp only [Try.f51, word, nums, nats, zv, nv, bv, sv, VL, VB, BEq.rfl, V1, V2, V3, V4, V5, V6, V7, V8, V9, V10, V11, V12, V13, VE, Nat.reduceBEq, Nat.reduceAdd, Nat.reduceSub, Nat.reduceMul, Nat.reduceLeDiff, Nat.reduceLT, Nat.reduceEqDiff, Int.reduceBEq, Int.reduceBNe, Int.reduceLT, Int.reduceLE, Int.reduceAdd, Int.reduceSub, Int.reduceMul, kAgg, scD, List.all_cons, List.all_nil]
  refine CallX.mk (Ok.val (levels_ok sc p w hsc hw hn hl)) rfl ?_
  have hlv := lev_len sc w
  rw [rhymeL]
  obtain ⟨lv, hlv2⟩ : ∃ lv, lev sc w = lv := ⟨_, rfl⟩
  rw [hlv2] at hlv ⊢
  simp only [word, nums, nats, zv, nv, bv, sv, VL, VB, BEq.rfl, V1, V2, V3, V4, V5, V6, V7, V8, V9, V10, V11, V12, V13, VE, Nat.reduceBEq, Nat.reduceAdd, Nat.reduceSub, Nat.reduceMul, Nat.reduceLeDiff, Nat.reduceLT, Nat.reduceEqDiff, Int.reduceBEq, Int.reduceBNe, Int.reduceLT, Int.reduceLE, Int.reduceAdd, Int.reduceSub, Int.reduceMul, kAgg, scD, List.all_cons, List.all_nil]
  refine CallX.mut (CallMVC.mk [] [(2001, 10)] (BackwardN_ok lv) ?_ ?_)
  · simp only [word, nums, nats, zv, nv, bv, sv, VL, VB, BEq.rfl, V1, V2, V3, V4, V5, V6, V7, V8, V9, V10, V11, V12, V13, VE, Nat.reduceBEq, Nat.reduceAdd, Nat.reduceSub, Nat.reduceMul, Nat.reduceLeDiff, Nat.reduceLT, Nat.reduceEqDiff, Int.reduceBEq, Int.reduceBNe, Int.reduceLT, Int.reduceLE, Int.reduceAdd, Int.reduceSub, Int.reduceMul, kAgg, scD, List.all_cons, List.all_nil]
  simp only [word, nums, nats, zv, nv, bv, sv, VL, VB, BEq.rfl, V1, V2, V3, V4, V5, V6, V7, V8, V9, V10, V11, V12, V13, VE, Nat.reduceBEq, Nat.reduceAdd, Nat.reduceSub, Nat.reduceMul, Nat.reduceLeDiff, Nat.reduceLT, Nat.reduceEqDiff, Int.reduceBEq, Int.reduceBNe, Int.reduceLT, Int.reduceLE, Int.reduceAdd, Int.reduceSub, Int.reduceMul, kAgg, scD, List.all_cons, List.all_nil]
  refine RangeVC.mk (Y := Nat) [(2001, 10)] [] [] (backN_seq lv (by omega)) (fun k y => y = k ∧ k ≤ lv.length ∧ lastPk p lv lv.length = lastPk p lv (lv.length - k)) (fun _ => ⟨[(2, .bp 2 0), (3, .bp 3 0), (4, .bp 4 0)], [(2, .cells [.c (word sc), zv p]), (3, .cells [.c (word w)]), (4, .cells [.c (.sl [])])]⟩) rfl ?_ ?_ ⟨0, ?_, rfl, by omega, rfl⟩ ?_ ?_
  · simp only [word, nums, nats, zv, nv, bv, sv, VL, VB, BEq.rfl, V1, V2, V3, V4, V5, V6, V7, V8, V9, V10, V11, V12, V13, VE, Nat.reduceBEq, Nat.reduceAdd, Nat.reduceSub, Nat.reduceMul, Nat.reduceLeDiff, Nat.reduceLT, Nat.reduceEqDiff, Int.reduceBEq, Int.reduceBNe, Int.reduceLT, Int.reduceLE, Int.reduceAdd, Int.reduceSub, Int.reduceMul, kAgg, scD, List.all_cons, List.all_nil]
  · intro e he
    simp only [backN, List.mem_map] at he
    obtain ⟨i, _, rfl⟩ := he
    rfl
  · simp only [word, nums, nats, zv, nv, bv, sv, VL, VB, BEq.rfl, V1, V2, V3, V4, V5, V6, V7, V8, V9, V10, V11, V12, V13, VE, Nat.reduceBEq, Nat.reduceAdd, Nat.reduceSub, Nat.reduceMul, Nat.reduceLeDiff, Nat.reduceLT, Nat.reduceEqDiff, Int.reduceBEq, Int.reduceBNe, Int.reduceLT, Int.reduceLE, Int.reduceAdd, Int.reduceSub, Int.reduceMul, kAgg, scD, List.all_cons, List.all_nil]
  · rintro k e y he ⟨rfl, hk, hlev⟩
    have hk' : y < lv.length := by
      have := (List.getElem?_eq_some_iff.1 he).1
      rwa [backN_len] at this
    rw [backN_get hk'] at he
    injection he with he
    subst he
    obtain ⟨v, hv⟩ : ∃ v, lv.length - 1 - y = v := ⟨_, rfl⟩
    rw [show lv.length - y = v + 1 by omega, lastPk] at hlev
    obtain ⟨c, hc⟩ : ∃ c, lv.getD v 0 = c := ⟨_, rfl⟩
    rw [hc] at hlev
    simp only [hv, hc, word, nums, nats, zv, nv, bv, sv, VL, VB, BEq.rfl, V1, V2, V3, V4, V5, V6, V7, V8, V9, V10, V11, V12, V13, VE, Nat.reduceBEq, Nat.reduceAdd, Nat.reduceSub, Nat.reduceMul, Nat.reduceLeDiff, Nat.reduceLT, Nat.reduceEqDiff, Int.reduceBEq, Int.reduceBNe, Int.reduceLT, Int.reduceLE, Int.reduceAdd, Int.reduceSub, Int.reduceMul, kAgg, scD, List.all_cons, List.all_nil]
    refine guardB.mk (fun h => ?_) (fun h => ?_)
    · have h : p ≤ (c : Int) := by simpa using h
      rw [if_pos h] at hlev
      simp only [hlev, decide_eq_true h, word, nums, nats, zv, nv, bv, sv, VL, VB, BEq.rfl, V1, V2, V3, V4, V5, V6, V7, V8, V9, V10, V11, V12, V13, VE, Nat.reduceBEq, Nat.reduceAdd, Nat.reduceSub, Nat.reduceMul, Nat.reduceLeDiff, Nat.reduceLT, Nat.reduceEqDiff, Int.reduceBEq, Int.reduceBNe, Int.reduceLT, Int.reduceLE, Int.reduceAdd, Int.reduceSub, Int.reduceMul, kAgg, scD, List.all_cons, List.all_nil]
      have hvl : v < w.length := by omega
      refine ⟨⟨⟨by omega, by omega, by omega⟩, allLen_snd w⟩, ?_⟩
      rw [List.take_of_length_le (by simp), List.map_drop]
    · have h2 : ¬ p ≤ (c : Int) := by simpa using h
      rw [if_neg h2] at hlev
      simp only [decide_eq_false h2, word, nums, nats, zv, nv, bv, sv, VL, VB, BEq.rfl, V1, V2, V3, V4, V5, V6, V7, V8, V9, V10, V11, V12, V13, VE, Nat.reduceBEq, Nat.reduceAdd, Nat.reduceSub, Nat.reduceMul, Nat.reduceLeDiff, Nat.reduceLT, Nat.reduceEqDiff, Int.reduceBEq, Int.reduceBNe, Int.reduceLT, Int.reduceLE, Int.reduceAdd, Int.reduceSub, Int.reduceMul, kAgg, scD, List.all_cons, List.all_nil]
      refine ⟨y + 1, Enter.id ?_, rfl, by omega, by rw [hlev]; congr 1; omega⟩
      simp only [word, nums, nats, zv, nv, bv, sv, VL, VB, BEq.rfl, V1, V2, V3, V4, V5, V6, V7, V8, V9, V10, V11, V12, V13, VE, Nat.reduceBEq, Nat.reduceAdd, Nat.reduceSub, Nat.reduceMul, Nat.reduceLeDiff, Nat.reduceLT, Nat.reduceEqDiff, Int.reduceBEq, Int.reduceBNe, Int.reduceLT, Int.reduceLE, Int.reduceAdd, Int.reduceSub, Int.reduceMul, kAgg, scD, List.all_cons, List.all_nil]
  · rintro y ⟨rfl, hk, hlev⟩
    rw [backN_len, Nat.sub_self] at hlev
    have hlev : lastPk p lv lv.length = none := hlev
    simp only [hlev, word, nums, nats, zv, nv, bv, sv, VL, VB, BEq.rfl, V1, V2, V3, V4, V5, V6, V7, V8, V9, V10, V11, V12, V13, VE, Nat.reduceBEq, Nat.reduceAdd, Nat.reduceSub, Nat.reduceMul, Nat.reduceLeDiff, Nat.reduceLT, Nat.reduceEqDiff, Int.reduceBEq, Int.reduceBNe, Int.reduceLT, Int.reduceLE, Int.reduceAdd, Int.reduceSub, Int.reduceMul, kAgg, scD, List.all_cons, List.all_nil]

/-! both rhymes -/
def rhymeB (sc : List Snd) (p : Int) (a b : List Snd) : Bool := decide (checkE sc p [a, b] = 0 ∧ rhymeL p (lev sc a) a ≠ [] ∧ rhymeL p (lev sc a) a = rhymeL p (lev sc b) b)
theorem checkE_two {sc : List Snd} {p : Int} {a b : List Snd} (hc : checkE sc p [a, b] = 0) : okR sc p = true ∧ a.length ≤ 32 ∧ b.length ≤ 32 := by
  have hr : okR sc p = true := by
    rw [checkE, ruleE] at hc
    cases h : okR sc p with
    | true => rfl
    | false => rw [h] at hc; simp at hc
  refine ⟨hr, ?_⟩
  rw [checkE, ruleE, if_pos hr, if_pos rfl, firstE] at hc
  have ha : a.length ≤ 32 := by
    by_cases h : 32 < a.length
    · rw [wordE, if_pos h] at hc; simp at hc
    · omega
  refine ⟨ha, ?_⟩
  split at hc
  · rw [firstE] at hc
    by_cases h : 32 < b.length
    · rw [wordE, if_pos h] at hc; simp at hc
    · omega
  · rename_i h; exact absurd hc h
theorem allIn_nil : AllIn [] := fun k => ⟨by show 0 < 4294967296; decide, by show 0 < 4294967296; decide⟩
theorem allIn_one {a : List Snd} (ha : AllIn a) : ∀ k, AllIn ([a].getD k [])
  | 0 => ha
  | k + 1 => allIn_nil
theorem allIn_two {a b : List Snd} (ha : AllIn a) (hb : AllIn b) : ∀ k, AllIn ([a, b].getD k [])
  | 0 => ha
  | 1 => hb
  | k + 2 => allIn_nil
theorem Rhyme_ok (sc : List Snd) (p : Int) (a b : List Snd) (hsc : AllIn sc) (ha : AllIn a) (hb : AllIn b) : Ok Try.prog E 29 [.ag (ruleD sc p), .c (word a), .c (word b)] (.tp [bv (rhymeB sc p a b), zv (checkE sc p [a, b])]) := by
  refine ok_of_vc (L := [(4, [(2, 3)])]) (ts := [6, 7]) envOK mixed Try.func29 rfl (by kernel_rfl) rfl (by kernel_rfl) rfl fun hl => ?_
  simp only [Try.f29, word, nums, nats, zv, nv, bv, sv, VL, VB, BEq.rfl, V1, V2, V3, V4, V5, V6, V7, V8, V9, V10, V11, V12, V13, VE, Nat.reduceBEq, Nat.reduceAdd, Nat.reduceSub, Nat.reduceMul, Nat.reduceLeDiff, Nat.reduceLT, Nat.reduceEqDiff, Int.reduceBEq, Int.reduceBNe, Int.reduceLT, Int.reduceLE, Int.reduceAdd, Int.reduceSub, Int.reduceMul, kAgg, scD, List.all_cons, List.all_nil]
  have hck := check_ok sc p [a, b] hsc (allIn_two ha hb)
  simp only [wordsD, List.map_cons, List.map_nil] at hck
  refine CallX.mk hck rfl ?_
  rw [rhymeB]
  by_cases hc : checkE sc p [a, b] = 0
  · obtain ⟨hr, hal, hbl⟩ := checkE_two hc
    have hn : sc.length ≤ 12 := by
      simp only [okR, Bool.and_eq_true, decide_eq_true_eq] at hr
      exact hr.1
    simp only [hc, word, nums, nats, zv, nv, bv, sv, VL, VB, BEq.rfl, V1, V2, V3, V4, V5, V6, V7, V8, V9, V10, V11, V12, V13, VE, Nat.reduceBEq, Nat.reduceAdd, Nat.reduceSub, Nat.reduceMul, Nat.reduceLeDiff, Nat.reduceLT, Nat.reduceEqDiff, Int.reduceBEq, Int.reduceBNe, Int.reduceLT, Int.reduceLE, Int.reduceAdd, Int.reduceSub, Int.reduceMul, kAgg, scD, List.all_cons, List.all_nil]
    refine CallX.mk (rhyme_ok sc p a hsc ha hn hal) rfl ?_
    simp only [word, nums, nats, zv, nv, bv, sv, VL, VB, BEq.rfl, V1, V2, V3, V4, V5, V6, V7, V8, V9, V10, V11, V12, V13, VE, Nat.reduceBEq, Nat.reduceAdd, Nat.reduceSub, Nat.reduceMul, Nat.reduceLeDiff, Nat.reduceLT, Nat.reduceEqDiff, Int.reduceBEq, Int.reduceBNe, Int.reduceLT, Int.reduceLE, Int.reduceAdd, Int.reduceSub, Int.reduceMul, kAgg, scD, List.all_cons, List.all_nil]
    refine CallX.mk (rhyme_ok sc p b hsc hb hn hbl) rfl ?_
    obtain ⟨x, hx⟩ : ∃ x, rhymeL p (lev sc a) a = x := ⟨_, rfl⟩
    obtain ⟨y, hy⟩ : ∃ y, rhymeL p (lev sc b) b = y := ⟨_, rfl⟩
    rw [hx, hy]
    have e0 : decide ((0 : Int) < (x.length : Int)) = decide (0 < x.length) := lt_nat 0 _
    simp only [e0, word, nums, nats, zv, nv, bv, sv, VL, VB, BEq.rfl, V1, V2, V3, V4, V5, V6, V7, V8, V9, V10, V11, V12, V13, VE, Nat.reduceBEq, Nat.reduceAdd, Nat.reduceSub, Nat.reduceMul, Nat.reduceLeDiff, Nat.reduceLT, Nat.reduceEqDiff, Int.reduceBEq, Int.reduceBNe, Int.reduceLT, Int.reduceLE, Int.reduceAdd, Int.reduceSub, Int.reduceMul, kAgg, scD, List.all_cons, List.all_nil]
    refine guardB.mk (fun h => ?_) (fun h => ?_)
    · have h2 : x ≠ [] := by
        have h : 0 < x.length := by simpa using h
        rintro rfl; exact absurd h (by simp)
      simp only [h, word, nums, nats, zv, nv, bv, sv, VL, VB, BEq.rfl, V1, V2, V3, V4, V5, V6, V7, V8, V9, V10, V11, V12, V13, VE, Nat.reduceBEq, Nat.reduceAdd, Nat.reduceSub, Nat.reduceMul, Nat.reduceLeDiff, Nat.reduceLT, Nat.reduceEqDiff, Int.reduceBEq, Int.reduceBNe, Int.reduceLT, Int.reduceLE, Int.reduceAdd, Int.reduceSub, Int.reduceMul, kAgg, scD, List.all_cons, List.all_nil]
      refine CallX.mk (equal_ok x y) rfl ?_
      have e1 : decide (x ≠ [] ∧ x = y) = decide (x = y) := by congr 1; exact propext ⟨fun h => h.2, fun h => ⟨h2, h⟩⟩
      simp only [e1, word, nums, nats, zv, nv, bv, sv, VL, VB, BEq.rfl, V1, V2, V3, V4, V5, V6, V7, V8, V9, V10, V11, V12, V13, VE, Nat.reduceBEq, Nat.reduceAdd, Nat.reduceSub, Nat.reduceMul, Nat.reduceLeDiff, Nat.reduceLT, Nat.reduceEqDiff, Int.reduceBEq, Int.reduceBNe, Int.reduceLT, Int.reduceLE, Int.reduceAdd, Int.reduceSub, Int.reduceMul, kAgg, scD, List.all_cons, List.all_nil]
    · have h2 : ¬ x ≠ [] := by
        have h : ¬ 0 < x.length := by simpa using h
        exact fun hx => h (List.length_pos_iff.2 hx)
      have e1 : decide (x ≠ [] ∧ x = y) = false := decide_eq_false fun h => h2 h.1
      simp only [h, e1, word, nums, nats, zv, nv, bv, sv, VL, VB, BEq.rfl, V1, V2, V3, V4, V5, V6, V7, V8, V9, V10, V11, V12, V13, VE, Nat.reduceBEq, Nat.reduceAdd, Nat.reduceSub, Nat.reduceMul, Nat.reduceLeDiff, Nat.reduceLT, Nat.reduceEqDiff, Int.reduceBEq, Int.reduceBNe, Int.reduceLT, Int.reduceLE, Int.reduceAdd, Int.reduceSub, Int.reduceMul, kAgg, scD, List.all_cons, List.all_nil]
  · have h1 : (checkE sc p [a, b] != 0) = true := by simpa using hc
    simp only [h1, hc, word, nums, nats, zv, nv, bv, sv, VL, VB, BEq.rfl, V1, V2, V3, V4, V5, V6, V7, V8, V9, V10, V11, V12, V13, VE, Nat.reduceBEq, Nat.reduceAdd, Nat.reduceSub, Nat.reduceMul, Nat.reduceLeDiff, Nat.reduceLT, Nat.reduceEqDiff, Int.reduceBEq, Int.reduceBNe, Int.reduceLT, Int.reduceLE, Int.reduceAdd, Int.reduceSub, Int.reduceMul, kAgg, scD, List.all_cons, List.all_nil]
    rw [decide_eq_false fun h : False ∧ _ => h.1]

/-! the reference's -/
theorem getLast_getD {l : List Nat} (h : l ≠ []) : l.getLast? = some (l.getD (l.length - 1) 0) := by
  have h2 : l.length - 1 < l.length := by
    have := List.length_pos_iff.2 h
    omega
  rw [List.getLast?_eq_getElem?, getD_of 0 l _ h2, List.getElem?_eq_getElem h2]
theorem rhymeL_peaks (p : Int) (lv : List Nat) (w : List Snd) (hl : lv.length = w.length) : rhymeL p lv w = if (peaksL p lv).length = 0 then [] else w.drop ((peaksL p lv).getD ((peaksL p lv).length - 1) 0) := by
  rw [rhymeL, lastPk_at, ← peaksL]
  by_cases h : (peaksL p lv).length = 0
  · rw [if_pos h, List.length_eq_zero_iff.1 h]; rfl
  · rw [if_neg h, getLast_getD (fun h2 => h (by rw [h2]; rfl))]
theorem rhymeL_nil (p : Int) (lv : List Nat) (w : List Snd) (hl : lv.length = w.length) : rhymeL p lv w = [] ↔ (peaksL p lv).length = 0 := by
  rw [rhymeL_peaks p lv w hl]
  by_cases h : (peaksL p lv).length = 0
  · rw [if_pos h]; exact ⟨fun _ => h, fun _ => rfl⟩
  · rw [if_neg h]
    have h1 := (filter_at (P := fun i => decide (p ≤ (lv.getD i 0 : Int))) (n := lv.length) (k := (peaksL p lv).length - 1) (by rw [← peaksL]; omega)).1
    rw [← peaksL] at h1
    refine ⟨fun h2 => ?_, fun h2 => absurd h2 h⟩
    rw [List.drop_eq_nil_iff] at h2
    omega
theorem rRhyme_ok (sc : List Snd) (p : Int) (a b : List Snd) (hsc : AllIn sc) (ha : AllIn a) (hb : AllIn b) : Ok Try.prog E 30 [.ag (ruleD sc p), .c (word a), .c (word b)] (.tp [bv (rhymeB sc p a b), zv (checkE sc p [a, b])]) := by
  refine ok_of_vc (L := []) (ts := [6, 7]) envOK mixed Try.func30 rfl (by kernel_rfl) rfl (by kernel_rfl) rfl fun hl => ?_
  simp only [Try.f30, word, nums, nats, zv, nv, bv, sv, VL, VB, BEq.rfl, V1, V2, V3, V4, V5, V6, V7, V8, V9, V10, V11, V12, V13, VE, Nat.reduceBEq, Nat.reduceAdd, Nat.reduceSub, Nat.reduceMul, Nat.reduceLeDiff, Nat.reduceLT, Nat.reduceEqDiff, Int.reduceBEq, Int.reduceBNe, Int.reduceLT, Int.reduceLE, Int.reduceAdd, Int.reduceSub, Int.reduceMul, kAgg, scD, List.all_cons, List.all_nil]
  refine CallX.mk (rcheck2_ok sc p a hsc ha) rfl ?_
  have e1 : ∀ c, checkE sc p [a, c] = if checkE sc p [a] = 0 then wordE c else checkE sc p [a] := by
    intro c
    by_cases h1 : ruleE sc p = 0
    · have h3 : checkE sc p [a] = wordE a := by
        rw [checkE, if_pos h1, firstE]
        split
        · rename_i h; exact h.symm
        · rfl
      rw [h3, checkE, if_pos h1, firstE]
      by_cases h2 : wordE a = 0
      · rw [if_pos h2, if_pos h2, firstE]
        split
        · rename_i h; exact h.symm
        · rfl
      · rw [if_neg h2, if_neg h2]
    · have h3 : checkE sc p [a] = ruleE sc p := if_neg h1
      rw [checkE, if_neg h1, h3, if_neg h1]
  by_cases hc : checkE sc p [a] = 0
  · simp only [hc, word, nums, nats, zv, nv, bv, sv, VL, VB, BEq.rfl, V1, V2, V3, V4, V5, V6, V7, V8, V9, V10, V11, V12, V13, VE, Nat.reduceBEq, Nat.reduceAdd, Nat.reduceSub, Nat.reduceMul, Nat.reduceLeDiff, Nat.reduceLT, Nat.reduceEqDiff, Int.reduceBEq, Int.reduceBNe, Int.reduceLT, Int.reduceLE, Int.reduceAdd, Int.reduceSub, Int.reduceMul, kAgg, scD, List.all_cons, List.all_nil]
    refine CallX.mk (rwcheck_ok b hb) rfl ?_
    have e2 : checkE sc p [a, b] = wordE b := by rw [e1, if_pos hc]
    by_cases hd : wordE b = 0
    · rw [hd] at e2
      obtain ⟨hr, hal, hbl⟩ := checkE_two e2
      have hn : sc.length ≤ 12 := by
        simp only [okR, Bool.and_eq_true, decide_eq_true_eq] at hr
        exact hr.1
      have hpa := rpeaks_ok sc p a hsc ha hal
      have hpb := rpeaks_ok sc p b hsc hb hbl
      rw [peaks_same a hr] at hpa
      rw [peaks_same b hr] at hpb
      have hna := rhymeL_nil p (lev sc a) a (lev_len sc a)
      have hnb := rhymeL_nil p (lev sc b) b (lev_len sc b)
      have hra := rhymeL_peaks p (lev sc a) a (lev_len sc a)
      have hrb := rhymeL_peaks p (lev sc b) b (lev_len sc b)
      have hla := peaksL_len p (lev sc a)
      have hlb := peaksL_len p (lev sc b)
      have hta := fun k hk => (filter_at (P := fun i => decide (p ≤ ((lev sc a).getD i 0 : Int))) (n := (lev sc a).length) (k := k) hk).1
      have htb := fun k hk => (filter_at (P := fun i => decide (p ≤ ((lev sc b).getD i 0 : Int))) (n := (lev sc b).length) (k := k) hk).1
      rw [← peaksL] at hta htb
      rw [rhymeB, e2]
      revert hpa hpb hna hnb hra hrb hla hlb hta htb
      rw [lev_len, lev_len]
      generalize peaksL p (lev sc a) = pa
      generalize peaksL p (lev sc b) = pb
      generalize rhymeL p (lev sc a) a = x
      generalize rhymeL p (lev sc b) b = y
      intro hpa hpb hna hnb hra hrb hla hlb hta htb
      have f0 : ((pa.length : Int) == 0) = decide (pa.length = 0) := eq_nat _ 0
      have f1 : ((pb.length : Int) == 0) = decide (pb.length = 0) := eq_nat _ 0
      simp only [hd, word, nums, nats, zv, nv, bv, sv, VL, VB, BEq.rfl, V1, V2, V3, V4, V5, V6, V7, V8, V9, V10, V11, V12, V13, VE, Nat.reduceBEq, Nat.reduceAdd, Nat.reduceSub, Nat.reduceMul, Nat.reduceLeDiff, Nat.reduceLT, Nat.reduceEqDiff, Int.reduceBEq, Int.reduceBNe, Int.reduceLT, Int.reduceLE, Int.reduceAdd, Int.reduceSub, Int.reduceMul, kAgg, scD, List.all_cons, List.all_nil]
      refine CallX.mk hpa rfl ?_
      simp only [word, nums, nats, zv, nv, bv, sv, VL, VB, BEq.rfl, V1, V2, V3, V4, V5, V6, V7, V8, V9, V10, V11, V12, V13, VE, Nat.reduceBEq, Nat.reduceAdd, Nat.reduceSub, Nat.reduceMul, Nat.reduceLeDiff, Nat.reduceLT, Nat.reduceEqDiff, Int.reduceBEq, Int.reduceBNe, Int.reduceLT, Int.reduceLE, Int.reduceAdd, Int.reduceSub, Int.reduceMul, kAgg, scD, List.all_cons, List.all_nil]
      refine CallX.mk hpb rfl ?_
      simp only [nats, f0, f1, word, nums, nats, zv, nv, bv, sv, VL, VB, BEq.rfl, V1, V2, V3, V4, V5, V6, V7, V8, V9, V10, V11, V12, V13, VE, Nat.reduceBEq, Nat.reduceAdd, Nat.reduceSub, Nat.reduceMul, Nat.reduceLeDiff, Nat.reduceLT, Nat.reduceEqDiff, Int.reduceBEq, Int.reduceBNe, Int.reduceLT, Int.reduceLE, Int.reduceAdd, Int.reduceSub, Int.reduceMul, kAgg, scD, List.all_cons, List.all_nil]
      refine guardB.mk (fun h => ?_) (fun h => ?_)
      · have h0 : pa.length = 0 := by simpa using h
        have hx : x = [] := hna.2 h0
        have hf : decide (x ≠ [] ∧ x = y) = false := decide_eq_false fun h => h.1 hx
        simp only [h, hf, word, nums, nats, zv, nv, bv, sv, VL, VB, BEq.rfl, V1, V2, V3, V4, V5, V6, V7, V8, V9, V10, V11, V12, V13, VE, Nat.reduceBEq, Nat.reduceAdd, Nat.reduceSub, Nat.reduceMul, Nat.reduceLeDiff, Nat.reduceLT, Nat.reduceEqDiff, Int.reduceBEq, Int.reduceBNe, Int.reduceLT, Int.reduceLE, Int.reduceAdd, Int.reduceSub, Int.reduceMul, kAgg, scD, List.all_cons, List.all_nil]
      have h0 : ¬ pa.length = 0 := by simpa using h
      simp only [h, word, nums, nats, zv, nv, bv, sv, VL, VB, BEq.rfl, V1, V2, V3, V4, V5, V6, V7, V8, V9, V10, V11, V12, V13, VE, Nat.reduceBEq, Nat.reduceAdd, Nat.reduceSub, Nat.reduceMul, Nat.reduceLeDiff, Nat.reduceLT, Nat.reduceEqDiff, Int.reduceBEq, Int.reduceBNe, Int.reduceLT, Int.reduceLE, Int.reduceAdd, Int.reduceSub, Int.reduceMul, kAgg, scD, List.all_cons, List.all_nil]
      refine guardB.mk (fun h => ?_) (fun h => ?_)
      · have h1 : pb.length = 0 := by simpa using h
        have hx : y = [] := hnb.2 h1
        have hf : decide (x ≠ [] ∧ x = y) = false := decide_eq_false fun h => h.1 (h.2.trans hx)
        simp only [h, hf, word, nums, nats, zv, nv, bv, sv, VL, VB, BEq.rfl, V1, V2, V3, V4, V5, V6, V7, V8, V9, V10, V11, V12, V13, VE, Nat.reduceBEq, Nat.reduceAdd, Nat.reduceSub, Nat.reduceMul, Nat.reduceLeDiff, Nat.reduceLT, Nat.reduceEqDiff, Int.reduceBEq, Int.reduceBNe, Int.reduceLT, Int.reduceLE, Int.reduceAdd, Int.reduceSub, Int.reduceMul, kAgg, scD, List.all_cons, List.all_nil]
      have h1 : ¬ pb.length = 0 := by simpa using h
      have hga := getD_nat pa (pa.length - 1) (by omega)
      have hgb := getD_nat pb (pb.length - 1) (by omega)
      have hta := hta (pa.length - 1) (by omega)
      have htb := htb (pb.length - 1) (by omega)
      rw [if_neg h0] at hra
      rw [if_neg h1] at hrb
      have hwa : IntKind.i64.wrap ((pa.length : Int) - 1) = ((pa.length - 1 : Nat) : Int) := by rw [wrap_in (by omega) (by omega)]; omega
      have hwb : IntKind.i64.wrap ((pb.length : Int) - 1) = ((pb.length - 1 : Nat) : Int) := by rw [wrap_in (by omega) (by omega)]; omega
      obtain ⟨i, hi⟩ : ∃ i, pa.getD (pa.length - 1) 0 = i := ⟨_, rfl⟩
      obtain ⟨j, hj⟩ : ∃ j, pb.getD (pb.length - 1) 0 = j := ⟨_, rfl⟩
      rw [hi] at hga hta hra
      rw [hj] at hgb htb hrb
      have hda : List.drop i (List.take a.length (List.map Snd.enc a)) = x.map Snd.enc := by
        rw [List.take_of_length_le (by simp), hra, List.map_drop]
      have hdb : List.drop j (List.take b.length (List.map Snd.enc b)) = y.map Snd.enc := by
        rw [List.take_of_length_le (by simp), hrb, List.map_drop]
      have hx : x ≠ [] := fun h => h0 (hna.1 h)
      have e3 : decide (x ≠ [] ∧ x = y) = decide (x = y) := by congr 1; exact propext ⟨fun h => h.2, fun h => ⟨hx, h⟩⟩
      simp only [h, hwa, hwb, hga, hgb, nat_def, hda, hdb, word, nums, nats, zv, nv, bv, sv, VL, VB, BEq.rfl, V1, V2, V3, V4, V5, V6, V7, V8, V9, V10, V11, V12, V13, VE, Nat.reduceBEq, Nat.reduceAdd, Nat.reduceSub, Nat.reduceMul, Nat.reduceLeDiff, Nat.reduceLT, Nat.reduceEqDiff, Int.reduceBEq, Int.reduceBNe, Int.reduceLT, Int.reduceLE, Int.reduceAdd, Int.reduceSub, Int.reduceMul, kAgg, scD, List.all_cons, List.all_nil]
      refine ⟨⟨by omega, by omega⟩, ⟨⟨by omega, by omega, by omega⟩, allLen_snd a⟩, ⟨by omega, by omega⟩, ⟨⟨by omega, by omega, by omega⟩, allLen_snd b⟩, ?_⟩
      refine CallX.mk (requal_ok x y) rfl ?_
      simp only [e3, word, nums, nats, zv, nv, bv, sv, VL, VB, BEq.rfl, V1, V2, V3, V4, V5, V6, V7, V8, V9, V10, V11, V12, V13, VE, Nat.reduceBEq, Nat.reduceAdd, Nat.reduceSub, Nat.reduceMul, Nat.reduceLeDiff, Nat.reduceLT, Nat.reduceEqDiff, Int.reduceBEq, Int.reduceBNe, Int.reduceLT, Int.reduceLE, Int.reduceAdd, Int.reduceSub, Int.reduceMul, kAgg, scD, List.all_cons, List.all_nil]
    · have h1 : (wordE b != 0) = true := by simpa using hd
      simp only [h1, rhymeB, e2, hd, word, nums, nats, zv, nv, bv, sv, VL, VB, BEq.rfl, V1, V2, V3, V4, V5, V6, V7, V8, V9, V10, V11, V12, V13, VE, Nat.reduceBEq, Nat.reduceAdd, Nat.reduceSub, Nat.reduceMul, Nat.reduceLeDiff, Nat.reduceLT, Nat.reduceEqDiff, Int.reduceBEq, Int.reduceBNe, Int.reduceLT, Int.reduceLE, Int.reduceAdd, Int.reduceSub, Int.reduceMul, kAgg, scD, List.all_cons, List.all_nil]
      rw [decide_eq_false fun h : False ∧ _ => h.1]
  · have h1 : (checkE sc p [a] != 0) = true := by simpa using hc
    have e2 : checkE sc p [a, b] = checkE sc p [a] := by rw [e1, if_neg hc]
    simp only [h1, rhymeB, e2, hc, word, nums, nats, zv, nv, bv, sv, VL, VB, BEq.rfl, V1, V2, V3, V4, V5, V6, V7, V8, V9, V10, V11, V12, V13, VE, Nat.reduceBEq, Nat.reduceAdd, Nat.reduceSub, Nat.reduceMul, Nat.reduceLeDiff, Nat.reduceLT, Nat.reduceEqDiff, Int.reduceBEq, Int.reduceBNe, Int.reduceLT, Int.reduceLE, Int.reduceAdd, Int.reduceSub, Int.reduceMul, kAgg, scD, List.all_cons, List.all_nil]
    rw [decide_eq_false fun h : False ∧ _ => h.1]
end Go.Cp
end
