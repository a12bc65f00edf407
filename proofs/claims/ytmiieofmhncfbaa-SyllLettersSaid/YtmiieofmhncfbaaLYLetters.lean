/-
  SyllLetters returns true for every input: the shape has a letter for each sound, V for peaks, and a point between syllables. Conditions: none.
-/
import Derived.Test.YtmiieofmhncfbaaMJ
import Derived.Test.YtmiieofmhncfbaaMP
set_option linter.unusedVariables false
set_option linter.unusedSimpArgs false
set_option maxHeartbeats 8000000
set_option maxRecDepth 100000
namespace Go.Cp
open Go Go.Proofs Go.Vx

/-- the letters are read from (sounds, points) up to (a2, p2) -/
def runs (pk : Nat → Bool) (ss : List Syl) (n : Nat) : List UInt8 → Nat → Nat → Nat → Nat → Prop
  | [], a, p, a2, p2 => a = a2 ∧ p = p2
  | b :: r, a, p, a2, p2 => (b = 46 ∧ p + 1 < ss.length ∧ (ss.getD (p + 1) Syl.zero).b = a ∧ runs pk ss n r a (p + 1) a2 p2) ∨ (a < n ∧ b = (if pk a = true then 86 else 67) ∧ runs pk ss n r (a + 1) p a2 p2)
theorem runs_app {pk : Nat → Bool} {ss : List Syl} {n : Nat} {ys : List UInt8} {a1 p1 a2 p2 : Nat} (hy : runs pk ss n ys a1 p1 a2 p2) : ∀ (xs : List UInt8) (a p : Nat), runs pk ss n xs a p a1 p1 → runs pk ss n (xs ++ ys) a p a2 p2
  | [], a, p, h => by
    obtain ⟨rfl, rfl⟩ := h
    exact hy
  | b :: r, a, p, h => by
    rcases h with ⟨h1, h2, h3, h4⟩ | ⟨h1, h2, h3⟩
    · exact .inl ⟨h1, h2, h3, runs_app hy r _ _ h4⟩
    · exact .inr ⟨h1, h2, runs_app hy r _ _ h3⟩
theorem runs_seg {pk : Nat → Bool} {ss : List Syl} {n p b : Nat} : ∀ m, b + m ≤ n → runs pk ss n (segF pk ByteArray.empty b m).data.toList b p (b + m) p
  | 0, _ => ⟨rfl, rfl⟩
  | m + 1, h => by
    rw [segF, toL_append]
    refine runs_app ?_ _ _ _ (runs_seg m (by omega))
    have e : (if pk (b + m) = true then chV else chC).data.toList = [if pk (b + m) = true then 86 else 67] := by split <;> rfl
    rw [e]
    exact .inr ⟨by omega, rfl, rfl, rfl⟩
theorem runs_shape {pk : Nat → Bool} {ss : List Syl} {n : Nat} (hb : ∀ k, k < ss.length → (ss.getD k Syl.zero).b = atN ss k) (he : ∀ k, k < ss.length → (ss.getD k Syl.zero).b ≤ (ss.getD k Syl.zero).e ∧ (ss.getD k Syl.zero).e ≤ n) :
    ∀ k, k ≤ ss.length → runs pk ss n (shapeTo pk ss k).data.toList 0 0 (atN ss k) (k - 1)
  | 0, _ => ⟨rfl, rfl⟩
  | k + 1, hk => by
    have ih := runs_shape (pk := pk) hb he k (by omega)
    have h1 := hb k hk
    obtain ⟨h2, h3⟩ := he k hk
    have hseg := runs_seg (pk := pk) (ss := ss) (n := n) (p := k) (b := (ss.getD k Syl.zero).b) ((ss.getD k Syl.zero).e - (ss.getD k Syl.zero).b) (by omega)
    rw [show (ss.getD k Syl.zero).b + ((ss.getD k Syl.zero).e - (ss.getD k Syl.zero).b) = atN ss (k + 1) from by rw [atN]; omega] at hseg
    rw [shapeTo, segF_split, Nat.add_sub_cancel]
    refine runs_app hseg _ _ _ ?_
    rw [h1]
    by_cases h0 : 0 < k
    · rw [if_pos h0, toL_append]
      refine runs_app ?_ _ _ _ ih
      refine .inl ⟨rfl, by omega, ?_, rfl, by omega⟩
      rw [show k - 1 + 1 = k by omega]; exact h1
    · have h00 : k = 0 := by omega
      subst h00
      exact ⟨rfl, rfl⟩
theorem letters_law (sc : List Snd) (p : Int) (w : List Snd) (hsc : AllIn sc) (hw : AllIn w) : Ok Try.prog E 9 [.ag (ruleD sc p), .c (word w)] (bv true) := by
  refine ok_of_vc (L := [(13, [(14, 15), (14, 16)])]) (ts := [4]) envOK mixed Try.func9 rfl (by kernel_rfl) rfl (by kernel_rfl) rfl fun hl => ?_
  simp only [Try.f9, word, nums, nats, zv, nv, bv, sv, beq_self_eq_true, VL, VB, BEq.rfl, V1, V2, V3, V4, V5, V6, V7, V8, V9, V10, V11, V12, V13, VE, Nat.reduceBEq, Nat.reduceAdd, Nat.reduceSub, Nat.reduceMul, Nat.reduceLeDiff, Nat.reduceLT, Nat.reduceEqDiff, Int.reduceBEq, Int.reduceBNe, Int.reduceLT, Int.reduceLE, Int.reduceAdd, Int.reduceSub, Int.reduceMul, kAgg, scD, List.all_cons, List.all_nil]
  refine CallX.mk (Shape_ok sc p w hsc hw) rfl ?_
  simp only [word, nums, nats, zv, nv, bv, sv, beq_self_eq_true, VL, VB, BEq.rfl, V1, V2, V3, V4, V5, V6, V7, V8, V9, V10, V11, V12, V13, VE, Nat.reduceBEq, Nat.reduceAdd, Nat.reduceSub, Nat.reduceMul, Nat.reduceLeDiff, Nat.reduceLT, Nat.reduceEqDiff, Int.reduceBEq, Int.reduceBNe, Int.reduceLT, Int.reduceLE, Int.reduceAdd, Int.reduceSub, Int.reduceMul, kAgg, scD, List.all_cons, List.all_nil]
  refine CallX.mk (Split_ok sc p w hsc hw) rfl ?_
  by_cases hc : checkE sc p [w] = 0
  case neg =>
    have h1 : (checkE sc p [w] != 0) = true := by simpa using hc
    have h2 : splitS sc p w = [] := by rw [splitS, if_neg hc]
    have h3 : shapeS sc p w = ByteArray.empty := by rw [shapeS, h2]; rfl
    have hz : (ByteArray.empty).size = 0 := rfl
    simp only [h1, h2, h3, syls, bne_self_eq_false, word, nums, nats, zv, nv, bv, sv, beq_self_eq_true, VL, VB, BEq.rfl, V1, V2, V3, V4, V5, V6, V7, V8, V9, V10, V11, V12, V13, VE, Nat.reduceBEq, Nat.reduceAdd, Nat.reduceSub, Nat.reduceMul, Nat.reduceLeDiff, Nat.reduceLT, Nat.reduceEqDiff, Int.reduceBEq, Int.reduceBNe, Int.reduceLT, Int.reduceLE, Int.reduceAdd, Int.reduceSub, Int.reduceMul, kAgg, scD, List.all_cons, List.all_nil]
    refine LoopVC.mk (Y := Unit) (fun _ => True) (fun _ => ⟨[(5, sv ByteArray.empty), (6, zv (checkE sc p [w])), (11, zv 0)], []⟩) (fun _ => 0) ⟨(), Enter.mk [] [] [] ?_, trivial⟩ ?_
    · simp only [word, nums, nats, zv, nv, bv, sv, beq_self_eq_true, VL, VB, BEq.rfl, V1, V2, V3, V4, V5, V6, V7, V8, V9, V10, V11, V12, V13, VE, Nat.reduceBEq, Nat.reduceAdd, Nat.reduceSub, Nat.reduceMul, Nat.reduceLeDiff, Nat.reduceLT, Nat.reduceEqDiff, Int.reduceBEq, Int.reduceBNe, Int.reduceLT, Int.reduceLE, Int.reduceAdd, Int.reduceSub, Int.reduceMul, kAgg, scD, List.all_cons, List.all_nil]
    rintro ⟨⟩ _
    have f : decide ((0 : Int) < ((0 : Nat) : Int)) = false := rfl
    simp only [hz, f, h1, word, nums, nats, zv, nv, bv, sv, beq_self_eq_true, VL, VB, BEq.rfl, V1, V2, V3, V4, V5, V6, V7, V8, V9, V10, V11, V12, V13, VE, Nat.reduceBEq, Nat.reduceAdd, Nat.reduceSub, Nat.reduceMul, Nat.reduceLeDiff, Nat.reduceLT, Nat.reduceEqDiff, Int.reduceBEq, Int.reduceBNe, Int.reduceLT, Int.reduceLE, Int.reduceAdd, Int.reduceSub, Int.reduceMul, kAgg, scD, List.all_cons, List.all_nil]
    refine CallX.mk works_ok rfl ?_
    simp only [word, nums, nats, zv, nv, bv, sv, beq_self_eq_true, VL, VB, BEq.rfl, V1, V2, V3, V4, V5, V6, V7, V8, V9, V10, V11, V12, V13, VE, Nat.reduceBEq, Nat.reduceAdd, Nat.reduceSub, Nat.reduceMul, Nat.reduceLeDiff, Nat.reduceLT, Nat.reduceEqDiff, Int.reduceBEq, Int.reduceBNe, Int.reduceLT, Int.reduceLE, Int.reduceAdd, Int.reduceSub, Int.reduceMul, kAgg, scD, List.all_cons, List.all_nil]
  obtain ⟨hr, hwl⟩ := checkE_zero hc
  have hss : splitS sc p w = splitL p (lev sc w) := by rw [splitS, if_pos hc]
  have hlv := lev_len sc w
  have hsz : (shapeS sc p w).size ≤ 33 * 32 := by
    have hl := splitS_len sc p w
    have := shapeTo_size (fun i => peakB sc p (w.getD i Snd.zero)) (splitS sc p w) (fun s hs => Nat.le_trans (splitS_in hs).2.2.2.1 (checkE_zero hc).2) _ (Nat.le_refl _)
    rw [shapeS]; omega
  have hrun : runs (fun i => peakB sc p (w.getD i Snd.zero)) (splitL p (lev sc w)) w.length (shapeS sc p w).data.toList 0 0 w.length ((splitL p (lev sc w)).length - 1) := by
    have h := runs_shape (pk := fun i => peakB sc p (w.getD i Snd.zero)) (ss := splitL p (lev sc w)) (n := w.length) (fun k hk => split_begin hk) (fun k hk => by
      have := split_facts hk
      have h2 := splitL_in (p := p) (lv := lev sc w) (getD_mem Syl.zero hk)
      rw [hlv] at h2
      omega) _ (Nat.le_refl _)
    rw [split_end, hlv] at h
    rw [shapeS, hss]
    exact h
  rw [hss]
  have hsl := splitL_len p (lev sc w)
  revert hrun hsz hsl
  generalize splitL p (lev sc w) = ss
  generalize shapeS sc p w = str
  intro hsz hrun hsl
  simp only [syls, List.length_map, hc, bne_self_eq_false, word, nums, nats, zv, nv, bv, sv, beq_self_eq_true, VL, VB, BEq.rfl, V1, V2, V3, V4, V5, V6, V7, V8, V9, V10, V11, V12, V13, VE, Nat.reduceBEq, Nat.reduceAdd, Nat.reduceSub, Nat.reduceMul, Nat.reduceLeDiff, Nat.reduceLT, Nat.reduceEqDiff, Int.reduceBEq, Int.reduceBNe, Int.reduceLT, Int.reduceLE, Int.reduceAdd, Int.reduceSub, Int.reduceMul, kAgg, scD, List.all_cons, List.all_nil]
  refine LoopVC.mk (Y := Nat × Nat × Nat) (fun y => y.1 ≤ str.size ∧ y.2.1 ≤ y.1 ∧ y.2.2 ≤ y.1 ∧ runs (fun i => peakB sc p (w.getD i Snd.zero)) ss w.length (str.data.toList.drop y.1) y.2.1 y.2.2 w.length (ss.length - 1))
    (fun y => ⟨[(1, .c (word w)), (2, .bp 2 0), (5, sv str), (6, zv 0), (7, .c (syls ss)), (9, nv y.2.1), (10, nv y.2.2), (11, nv y.1)], [(2, .cells [.c (word sc), zv p])]⟩) (fun y => str.size - y.1) ⟨(0, 0, 0), Enter.mk [] [] [] ?_, by omega, Nat.le_refl _, Nat.le_refl _, hrun⟩ ?_
  · simp only [syls, List.length_map, hc, bne_self_eq_false, word, nums, nats, zv, nv, bv, sv, beq_self_eq_true, VL, VB, BEq.rfl, V1, V2, V3, V4, V5, V6, V7, V8, V9, V10, V11, V12, V13, VE, Nat.reduceBEq, Nat.reduceAdd, Nat.reduceSub, Nat.reduceMul, Nat.reduceLeDiff, Nat.reduceLT, Nat.reduceEqDiff, Int.reduceBEq, Int.reduceBNe, Int.reduceLT, Int.reduceLE, Int.reduceAdd, Int.reduceSub, Int.reduceMul, kAgg, scD, List.all_cons, List.all_nil]
    exact ⟨rfl, rfl, rfl⟩
  rintro ⟨i, a, q⟩ ⟨h1, h2, h3, h4⟩
  simp only at h1 h2 h3 h4
  simp only [lt_nat, syls, List.length_map, hc, bne_self_eq_false, word, nums, nats, zv, nv, bv, sv, beq_self_eq_true, VL, VB, BEq.rfl, V1, V2, V3, V4, V5, V6, V7, V8, V9, V10, V11, V12, V13, VE, Nat.reduceBEq, Nat.reduceAdd, Nat.reduceSub, Nat.reduceMul, Nat.reduceLeDiff, Nat.reduceLT, Nat.reduceEqDiff, Int.reduceBEq, Int.reduceBNe, Int.reduceLT, Int.reduceLE, Int.reduceAdd, Int.reduceSub, Int.reduceMul, kAgg, scD, List.all_cons, List.all_nil]
  refine guardB.mk (fun h => ?_) (fun h => ?_)
  · have hi : i < str.size := by simpa using h
    clear h
    have hil : i < str.data.toList.length := by rw [Array.length_toList]; exact hi
    obtain ⟨b, hb⟩ : ∃ b, str.data.toList[i] = b := ⟨_, rfl⟩
    have hat : byteAt str i = (b.toNat : Int) := by
      rw [← hb, byteAt, getD_of (0 : UInt8) _ i hil]
    rw [List.drop_eq_getElem_cons hil, hb] at h4
    have e0 : (0 : Int) ≤ (i : Int) := Int.natCast_nonneg i
    rcases h4 with ⟨rfl, g1, g2, g3⟩ | ⟨g1, rfl, g3⟩
    · have f1 : ((((46 : UInt8).toNat : Nat) : Int) == 46) = true := rfl
      have f2 : decide ((ss.length : Int) ≤ ((q + 1 : Nat) : Int)) = false := decide_eq_false (by omega)
      have e1 : (0 : Int) ≤ ((q + 1 : Nat) : Int) := Int.natCast_nonneg _
      have hgs := getD_syl ss (q + 1) g1
      rw [syl_def, g2] at hgs
      simp only [e0, hi, hat, f1, f2, e1, g1, hgs, wrap_nat (k := q) (by omega), wrap_nat (k := i) (by omega), syls, List.length_map, hc, bne_self_eq_false, word, nums, nats, zv, nv, bv, sv, beq_self_eq_true, VL, VB, BEq.rfl, V1, V2, V3, V4, V5, V6, V7, V8, V9, V10, V11, V12, V13, VE, Nat.reduceBEq, Nat.reduceAdd, Nat.reduceSub, Nat.reduceMul, Nat.reduceLeDiff, Nat.reduceLT, Nat.reduceEqDiff, Int.reduceBEq, Int.reduceBNe, Int.reduceLT, Int.reduceLE, Int.reduceAdd, Int.reduceSub, Int.reduceMul, kAgg, scD, List.all_cons, List.all_nil]
      refine ⟨(i + 1, a, q + 1), Enter.mk [] [] [] ?_, ⟨by show i + 1 ≤ _; omega, by show a ≤ i + 1; omega, by show q + 1 ≤ i + 1; omega, g3⟩, by show str.size - (i + 1) < str.size - i; omega⟩
      simp only [syls, List.length_map, hc, bne_self_eq_false, word, nums, nats, zv, nv, bv, sv, beq_self_eq_true, VL, VB, BEq.rfl, V1, V2, V3, V4, V5, V6, V7, V8, V9, V10, V11, V12, V13, VE, Nat.reduceBEq, Nat.reduceAdd, Nat.reduceSub, Nat.reduceMul, Nat.reduceLeDiff, Nat.reduceLT, Nat.reduceEqDiff, Int.reduceBEq, Int.reduceBNe, Int.reduceLT, Int.reduceLE, Int.reduceAdd, Int.reduceSub, Int.reduceMul, kAgg, scD, List.all_cons, List.all_nil]
    · have hin := hw a
      have hg := getD_snd w a g1
      obtain ⟨c, hcc⟩ : ∃ c, w.getD a Snd.zero = c := ⟨_, rfl⟩
      have hat : byteAt str i = ((if peakB sc p (w.getD a Snd.zero) = true then (86 : UInt8) else 67).toNat : Int) := hat
      rw [hcc] at hin hg hat
      have ho := Sonority_ok sc p c hsc hin
      rw [snd_def] at ho
      have e1 : (0 : Int) ≤ (a : Int) := Int.natCast_nonneg _
      have f3 : decide ((w.length : Int) ≤ (a : Int)) = false := decide_eq_false (by omega)
      rw [peakB] at hat
      cases hpk : decide (p ≤ (sonN sc p c : Int)) with
      | true =>
        rw [hpk, if_pos rfl] at hat
        have f0 : ((((86 : UInt8).toNat : Nat) : Int) == 46) = false := rfl
        have f1 : ((((86 : UInt8).toNat : Nat) : Int) == 86) = true := rfl
        have f2 : ((((86 : UInt8).toNat : Nat) : Int) != 86) = false := rfl
        simp only [e0, hi, hat, f0, f1, f2, f3, e1, g1, hg, snd_def, syls, List.length_map, hc, bne_self_eq_false, word, nums, nats, zv, nv, bv, sv, beq_self_eq_true, VL, VB, BEq.rfl, V1, V2, V3, V4, V5, V6, V7, V8, V9, V10, V11, V12, V13, VE, Nat.reduceBEq, Nat.reduceAdd, Nat.reduceSub, Nat.reduceMul, Nat.reduceLeDiff, Nat.reduceLT, Nat.reduceEqDiff, Int.reduceBEq, Int.reduceBNe, Int.reduceLT, Int.reduceLE, Int.reduceAdd, Int.reduceSub, Int.reduceMul, kAgg, scD, List.all_cons, List.all_nil]
        refine CallX.mk ho rfl ?_
        simp only [hpk, e0, hi, hat, f1, f2, wrap_nat (k := a) (by omega), wrap_nat (k := i) (by omega), syls, List.length_map, hc, bne_self_eq_false, word, nums, nats, zv, nv, bv, sv, beq_self_eq_true, VL, VB, BEq.rfl, V1, V2, V3, V4, V5, V6, V7, V8, V9, V10, V11, V12, V13, VE, Nat.reduceBEq, Nat.reduceAdd, Nat.reduceSub, Nat.reduceMul, Nat.reduceLeDiff, Nat.reduceLT, Nat.reduceEqDiff, Int.reduceBEq, Int.reduceBNe, Int.reduceLT, Int.reduceLE, Int.reduceAdd, Int.reduceSub, Int.reduceMul, kAgg, scD, List.all_cons, List.all_nil]
        refine ⟨(i + 1, a + 1, q), Enter.mk [] [] [] ?_, ⟨by show i + 1 ≤ _; omega, by show a + 1 ≤ i + 1; omega, by show q ≤ i + 1; omega, g3⟩, by show str.size - (i + 1) < str.size - i; omega⟩
        simp only [syls, List.length_map, hc, bne_self_eq_false, word, nums, nats, zv, nv, bv, sv, beq_self_eq_true, VL, VB, BEq.rfl, V1, V2, V3, V4, V5, V6, V7, V8, V9, V10, V11, V12, V13, VE, Nat.reduceBEq, Nat.reduceAdd, Nat.reduceSub, Nat.reduceMul, Nat.reduceLeDiff, Nat.reduceLT, Nat.reduceEqDiff, Int.reduceBEq, Int.reduceBNe, Int.reduceLT, Int.reduceLE, Int.reduceAdd, Int.reduceSub, Int.reduceMul, kAgg, scD, List.all_cons, List.all_nil]
      | false =>
        rw [hpk, if_neg (by simp)] at hat
        have f0 : ((((67 : UInt8).toNat : Nat) : Int) == 46) = false := rfl
        have f1 : ((((67 : UInt8).toNat : Nat) : Int) == 86) = false := rfl
        have f2 : ((((67 : UInt8).toNat : Nat) : Int) != 86) = true := rfl
        have f4 : ((((67 : UInt8).toNat : Nat) : Int) != 67) = false := rfl
        simp only [e0, hi, hat, f0, f1, f2, f3, f4, e1, g1, hg, snd_def, syls, List.length_map, hc, bne_self_eq_false, word, nums, nats, zv, nv, bv, sv, beq_self_eq_true, VL, VB, BEq.rfl, V1, V2, V3, V4, V5, V6, V7, V8, V9, V10, V11, V12, V13, VE, Nat.reduceBEq, Nat.reduceAdd, Nat.reduceSub, Nat.reduceMul, Nat.reduceLeDiff, Nat.reduceLT, Nat.reduceEqDiff, Int.reduceBEq, Int.reduceBNe, Int.reduceLT, Int.reduceLE, Int.reduceAdd, Int.reduceSub, Int.reduceMul, kAgg, scD, List.all_cons, List.all_nil]
        refine CallX.mk ho rfl ?_
        simp only [hpk, e0, hi, hat, f1, f2, f4, wrap_nat (k := a) (by omega), wrap_nat (k := i) (by omega), syls, List.length_map, hc, bne_self_eq_false, word, nums, nats, zv, nv, bv, sv, beq_self_eq_true, VL, VB, BEq.rfl, V1, V2, V3, V4, V5, V6, V7, V8, V9, V10, V11, V12, V13, VE, Nat.reduceBEq, Nat.reduceAdd, Nat.reduceSub, Nat.reduceMul, Nat.reduceLeDiff, Nat.reduceLT, Nat.reduceEqDiff, Int.reduceBEq, Int.reduceBNe, Int.reduceLT, Int.reduceLE, Int.reduceAdd, Int.reduceSub, Int.reduceMul, kAgg, scD, List.all_cons, List.all_nil]
        refine ⟨(i + 1, a + 1, q), Enter.mk [] [] [] ?_, ⟨by show i + 1 ≤ _; omega, by show a + 1 ≤ i + 1; omega, by show q ≤ i + 1; omega, g3⟩, by show str.size - (i + 1) < str.size - i; omega⟩
        simp only [syls, List.length_map, hc, bne_self_eq_false, word, nums, nats, zv, nv, bv, sv, beq_self_eq_true, VL, VB, BEq.rfl, V1, V2, V3, V4, V5, V6, V7, V8, V9, V10, V11, V12, V13, VE, Nat.reduceBEq, Nat.reduceAdd, Nat.reduceSub, Nat.reduceMul, Nat.reduceLeDiff, Nat.reduceLT, Nat.reduceEqDiff, Int.reduceBEq, Int.reduceBNe, Int.reduceLT, Int.reduceLE, Int.reduceAdd, Int.reduceSub, Int.reduceMul, kAgg, scD, List.all_cons, List.all_nil]
  · have hi : i = str.size := by
      have : ¬ i < str.size := by simpa using h
      omega
    rw [List.drop_eq_nil_of_le (by rw [Array.length_toList, hi]; exact Nat.le_refl _)] at h4
    obtain ⟨rfl, rfl⟩ := h4
    have hl1 : IntKind.i64.wrap ((ss.length : Int) - 1) = (ss.length : Int) - 1 := wrap_in (by omega) (by omega)
    have f1 : (((ss.length - 1 : Nat) : Int) == bif decide ((0 : Int) < (ss.length : Int) - 1) then (ss.length : Int) - 1 else 0) = true := by
      by_cases h0 : (0 : Int) < (ss.length : Int) - 1
      · rw [decide_eq_true h0, cond_true, int_beq]; exact decide_eq_true (by omega)
      · rw [decide_eq_false h0, cond_false, int_beq]; exact decide_eq_true (by omega)
    simp only [h, hl1, f1, syls, List.length_map, hc, bne_self_eq_false, word, nums, nats, zv, nv, bv, sv, beq_self_eq_true, VL, VB, BEq.rfl, V1, V2, V3, V4, V5, V6, V7, V8, V9, V10, V11, V12, V13, VE, Nat.reduceBEq, Nat.reduceAdd, Nat.reduceSub, Nat.reduceMul, Nat.reduceLeDiff, Nat.reduceLT, Nat.reduceEqDiff, Int.reduceBEq, Int.reduceBNe, Int.reduceLT, Int.reduceLE, Int.reduceAdd, Int.reduceSub, Int.reduceMul, kAgg, scD, List.all_cons, List.all_nil]
    refine CallX.mk works_ok rfl ?_
    simp only [syls, List.length_map, hc, bne_self_eq_false, word, nums, nats, zv, nv, bv, sv, beq_self_eq_true, VL, VB, BEq.rfl, V1, V2, V3, V4, V5, V6, V7, V8, V9, V10, V11, V12, V13, VE, Nat.reduceBEq, Nat.reduceAdd, Nat.reduceSub, Nat.reduceMul, Nat.reduceLeDiff, Nat.reduceLT, Nat.reduceEqDiff, Int.reduceBEq, Int.reduceBNe, Int.reduceLT, Int.reduceLE, Int.reduceAdd, Int.reduceSub, Int.reduceMul, kAgg, scD, List.all_cons, List.all_nil]
end Go.Cp
namespace Go.Proofs.Ytmiieofmhncfbaa
open Go Go.Proofs Go.RowKit Go.ChangeShapes Go.WideShapes Go.ChangeAt Go.Vx Go.Cp

theorem syllLetters_lifted (os : Os) (started : os.Started) (H : Type) (enc : TypeId × Value → H) :
    ReturnsInHanded {} Try.checked os 9 .any (Rows.syllLettersSpec.pre6 enc Try.prog Try.f9 Rows.syllLettersRow.domain false) (Rows.syllLettersSpec.post enc Try.prog Try.f9 false true false false) := by
  refine law_lifted (m := 8) (tb := 4) os started H enc own laid (by kernel_rfl) Try.func9 rfl Try.underlying4 rfl ?_ (by kernel_rfl) (by kernel_rfl)
    (ChangeSpec.witness6 (enc := enc) (C := Try.checked) false ⟨#[], #[.agg #[.slice none 0 0, .int .i64 0], .slice none 0 0], []⟩ 8 (by kernel_rfl) (by kernel_rfl) (by kernel_rfl) (by kernel_rfl)) ?_
  · rw [Try.params9]
    intro ds hd
    match ds, hd with
    | [d1, d2], _ => exact ⟨rfl, rfl, rfl⟩
  · rw [Try.params9]
    intro dss h
    obtain ⟨x1, x2, rfl, h1, h2⟩ := typedL2 h
    obtain ⟨sc, p, rfl, hsc⟩ := typed_rule (m := 4) h1
    obtain ⟨w, rfl, hw⟩ := typed_word (m := 5) h2
    simp only [argsAV, argAV, Try.underlying22, Try.underlying24]
    exact letters_law sc p w hsc hw

theorem syllLetters_holds : Rows.SyllLettersSaid :=
  OpenClaim.holds_of_wide 9 Try.f9 rfl rfl rfl rfl rfl rfl rfl ⟨rfl, rfl, rfl, rfl, rfl⟩ rfl rfl rfl rfl rfl (by kernel_rfl) Try.func9 (by kernel_rfl)
    (of_decide_eq_true (by kernel_rfl)) (by unfold Func.isWrapper; first | (rw [if_pos (by decide +kernel)]; kernel_rfl) | (rw [if_neg (by decide +kernel)]; exact ⟨rfl, rfl⟩))
    (fun os started H enc _ => syllLetters_lifted os started H enc)
#print axioms syllLetters_holds

end Go.Proofs.Ytmiieofmhncfbaa
