/-
  Syll: the reference's Shape and Legal. Conditions: none.
  Syll: the program's syllables. Conditions: none.
  Syll: the program's Legal. Conditions: none.
-/
import Derived.Test.YtmiieofmhncfbaaMF

section
set_option linter.unusedVariables false
set_option linter.unusedSimpArgs false
set_option maxHeartbeats 4000000
set_option maxRecDepth 10000
namespace Go.Cp
open Go Go.Proofs Go.Vx

theorem splitL_in {p : Int} {lv : List Nat} {s : Syl} (h : s ∈ splitL p lv) : s.b ≤ s.a ∧ s.a ≤ s.c ∧ s.c ≤ s.e ∧ s.e ≤ lv.length ∧ (s.a ≠ s.e → s.c = s.a + 1) ∧ (s.a = s.e → s.c = s.e ∧ s.b = 0 ∧ s.e = lv.length) := by
  rw [splitL] at h
  split at h
  · split at h
    · cases h
    · rw [List.mem_singleton] at h
      subst h
      exact ⟨Nat.zero_le _, Nat.le_refl _, Nat.le_refl _, Nat.le_refl _, fun h => absurd rfl h, fun _ => ⟨rfl, rfl, rfl⟩⟩
  · rw [sylsTo, List.mem_map] at h
    obtain ⟨k, hk, rfl⟩ := h
    have hk : k < (peaksL p lv).length := by simpa using hk
    have h1 := (filter_at (P := fun i => decide (p ≤ (lv.getD i 0 : Int))) (n := lv.length) (k := k) hk).1
    have hb2 := fun (hk : k + 1 < (peaksL p lv).length) => (filter_between (P := fun i => decide (p ≤ (lv.getD i 0 : Int))) (n := lv.length) (k := k) hk).1
    have h2 := fun (hk : k + 1 < (peaksL p lv).length) => (filter_at (P := fun i => decide (p ≤ (lv.getD i 0 : Int))) (n := lv.length) (k := k + 1) hk).1
    rw [← peaksL] at h1 hb2 h2
    have e1 : begN lv (peaksL p lv) k ≤ (peaksL p lv).getD k 0 := by
      cases k with
      | zero => exact Nat.zero_le _
      | succ k => exact downE_le _ _ _
    have e2 : (peaksL p lv).getD k 0 + 1 ≤ (if k + 1 < (peaksL p lv).length then begN lv (peaksL p lv) (k + 1) else lv.length) := by
      split
      · rename_i h; exact downE_ge _ _ _ (hb2 h)
      · exact h1
    have e3 : (if k + 1 < (peaksL p lv).length then begN lv (peaksL p lv) (k + 1) else lv.length) ≤ lv.length := by
      split
      · rename_i h
        have := downE_le lv ((peaksL p lv).getD k 0) ((peaksL p lv).getD (k + 1) 0)
        have := h2 h
        rw [begN]; omega
      · exact Nat.le_refl _
    exact ⟨e1, Nat.le_succ _, e2, e3, fun _ => rfl, fun h => absurd h (Nat.ne_of_lt e2)⟩
theorem splitS_in {sc : List Snd} {p : Int} {w : List Snd} {s : Syl} (h : s ∈ splitS sc p w) : s.b ≤ s.a ∧ s.a ≤ s.c ∧ s.c ≤ s.e ∧ s.e ≤ w.length ∧ (s.a ≠ s.e → s.c = s.a + 1) := by
  rw [splitS] at h
  split at h
  · obtain ⟨h1, h2, h3, h4, h5, _⟩ := splitL_in h
    rw [lev_len] at h4
    exact ⟨h1, h2, h3, h4, h5⟩
  · cases h
theorem getD_mem {α : Type} (z : α) {l : List α} {k : Nat} (h : k < l.length) : l.getD k z ∈ l := by
  rw [getD_of z l k h]; exact List.getElem_mem _

/-! the shape -/
def chV : ByteArray := ⟨#[86]⟩
def chC : ByteArray := ⟨#[67]⟩
def chDot : ByteArray := ⟨#[46]⟩
/-- m letters from place b on behind o -/
def segF (pk : Nat → Bool) (o : ByteArray) (b : Nat) : Nat → ByteArray
  | 0 => o
  | m + 1 => segF pk o b m ++ (if pk (b + m) = true then chV else chC)
def shapeTo (pk : Nat → Bool) (ss : List Syl) : Nat → ByteArray
  | 0 => ByteArray.empty
  | k + 1 => segF pk (if 0 < k then shapeTo pk ss k ++ chDot else shapeTo pk ss k) (ss.getD k Syl.zero).b ((ss.getD k Syl.zero).e - (ss.getD k Syl.zero).b)
def shapeS (sc : List Snd) (p : Int) (w : List Snd) : ByteArray := shapeTo (fun i => peakB sc p (w.getD i Snd.zero)) (splitS sc p w) (splitS sc p w).length
theorem segF_size (pk : Nat → Bool) (o : ByteArray) (b : Nat) : ∀ m, (segF pk o b m).size = o.size + m
  | 0 => rfl
  | m + 1 => by
    rw [segF, ByteArray.size_append, segF_size pk o b m]
    split <;> rfl
theorem shapeTo_size (pk : Nat → Bool) (ss : List Syl) (h : ∀ s ∈ ss, s.e ≤ 32) : ∀ k, k ≤ ss.length → (shapeTo pk ss k).size ≤ 33 * k
  | 0, _ => Nat.zero_le _
  | k + 1, hk => by
    have ih := shapeTo_size pk ss h k (by omega)
    have he := h _ (getD_mem Syl.zero (show k < ss.length by omega))
    rw [shapeTo, segF_size]
    have hd : chDot.size = 1 := rfl
    split
    · rw [ByteArray.size_append]; omega
    · omega
theorem rShape_ok (sc : List Snd) (p : Int) (w : List Snd) (hsc : AllIn sc) (hw : AllIn w) : Ok Try.prog E 26 [.ag (ruleD sc p), .c (word w)] (.tp [sv (shapeS sc p w), zv (checkE sc p [w])]) := by
  refine ok_of_vc (L := [(13, [])]) (ts := [4, 5]) envOK mixed Try.func26 rfl (by kernel_rfl) rfl (by kernel_rfl) rfl fun hl => ?_
  simp only [Try.f26, word, nums, nats, zv, nv, bv, sv, VL, VB, BEq.rfl, V1, V2, V3, V4, V5, V6, V7, V8, V9, V10, V11, V12, V13, VE, Nat.reduceBEq, Nat.reduceAdd, Nat.reduceSub, Nat.reduceMul, Nat.reduceLeDiff, Nat.reduceLT, Nat.reduceEqDiff, Int.reduceBEq, Int.reduceBNe, Int.reduceLT, Int.reduceLE, Int.reduceAdd, Int.reduceSub, Int.reduceMul, kAgg, scD, List.all_cons, List.all_nil]
  refine CallX.mk (rSplit_ok sc p w hsc hw) rfl ?_
  have hlen := splitS_len sc p w
  have hin := fun s hs => splitS_in (s := s) (sc := sc) (p := p) (w := w) hs
  rw [shapeS]
  by_cases hc : checkE sc p [w] = 0
  · obtain ⟨hr, hwl⟩ := checkE_zero hc
    obtain ⟨ss, hs⟩ : ∃ ss, splitS sc p w = ss := ⟨_, rfl⟩
    rw [hs] at hlen hin ⊢
    have hsz := fun k hk => shapeTo_size (fun i => peakB sc p (w.getD i Snd.zero)) ss (fun s hs => Nat.le_trans (hin s hs).2.2.2.1 hwl) k hk
    simp only [hc, syls, word, nums, nats, zv, nv, bv, sv, VL, VB, BEq.rfl, V1, V2, V3, V4, V5, V6, V7, V8, V9, V10, V11, V12, V13, VE, Nat.reduceBEq, Nat.reduceAdd, Nat.reduceSub, Nat.reduceMul, Nat.reduceLeDiff, Nat.reduceLT, Nat.reduceEqDiff, Int.reduceBEq, Int.reduceBNe, Int.reduceLT, Int.reduceLE, Int.reduceAdd, Int.reduceSub, Int.reduceMul, kAgg, scD, List.all_cons, List.all_nil]
    refine LoopVC.mk (Y := Nat) (fun k => k ≤ ss.length) (fun k => ⟨[(1, .c (word w)), (2, .bp 2 0), (6, .c (syls ss)), (8, sv (shapeTo (fun i => peakB sc p (w.getD i Snd.zero)) ss k)), (9, nv k)], [(2, .cells [.c (word sc), zv p])]⟩) (fun k => ss.length - k) ⟨0, Enter.id ?_, by omega⟩ ?_
    · simp only [syls, shapeTo, word, nums, nats, zv, nv, bv, sv, VL, VB, BEq.rfl, V1, V2, V3, V4, V5, V6, V7, V8, V9, V10, V11, V12, V13, VE, Nat.reduceBEq, Nat.reduceAdd, Nat.reduceSub, Nat.reduceMul, Nat.reduceLeDiff, Nat.reduceLT, Nat.reduceEqDiff, Int.reduceBEq, Int.reduceBNe, Int.reduceLT, Int.reduceLE, Int.reduceAdd, Int.reduceSub, Int.reduceMul, kAgg, scD, List.all_cons, List.all_nil]
      exact ⟨rfl, rfl⟩
    intro k hk
    simp only [lt_nat, syls, word, nums, nats, zv, nv, bv, sv, VL, VB, BEq.rfl, V1, V2, V3, V4, V5, V6, V7, V8, V9, V10, V11, V12, V13, VE, Nat.reduceBEq, Nat.reduceAdd, Nat.reduceSub, Nat.reduceMul, Nat.reduceLeDiff, Nat.reduceLT, Nat.reduceEqDiff, Int.reduceBEq, Int.reduceBNe, Int.reduceLT, Int.reduceLE, Int.reduceAdd, Int.reduceSub, Int.reduceMul, kAgg, scD, List.all_cons, List.all_nil]
    refine guardB.mk (fun h => ?_) (fun h => ?_)
    · have hk' : k < ss.length := by simpa using h
      clear h
      have hsh : shapeTo (fun i => peakB sc p (w.getD i Snd.zero)) ss (k + 1) = segF (fun i => peakB sc p (w.getD i Snd.zero)) (if 0 < k then shapeTo (fun i => peakB sc p (w.getD i Snd.zero)) ss k ++ chDot else shapeTo (fun i => peakB sc p (w.getD i Snd.zero)) ss k) (ss.getD k Syl.zero).b ((ss.getD k Syl.zero).e - (ss.getD k Syl.zero).b) := rfl
      have hsz := hsz k hk
      have hgk := getD_syl ss k hk'
      have hin := hin _ (getD_mem Syl.zero hk')
      obtain ⟨s, hs2⟩ : ∃ s, ss.getD k Syl.zero = s := ⟨_, rfl⟩
      rw [hs2] at hgk hsh hin
      obtain ⟨o, ho⟩ : ∃ o, shapeTo (fun i => peakB sc p (w.getD i Snd.zero)) ss k = o := ⟨_, rfl⟩
      rw [ho] at hsh hsz
      have e0 : decide ((0 : Int) < (k : Int)) = decide (0 < k) := lt_nat 0 k
      simp only [ho, e0, word, nums, nats, zv, nv, bv, sv, VL, VB, BEq.rfl, V1, V2, V3, V4, V5, V6, V7, V8, V9, V10, V11, V12, V13, VE, Nat.reduceBEq, Nat.reduceAdd, Nat.reduceSub, Nat.reduceMul, Nat.reduceLeDiff, Nat.reduceLT, Nat.reduceEqDiff, Int.reduceBEq, Int.reduceBNe, Int.reduceLT, Int.reduceLE, Int.reduceAdd, Int.reduceSub, Int.reduceMul, kAgg, scD, List.all_cons, List.all_nil]
      refine guardB.mk (fun h => ?_) (fun h => ?_)
      · have h : 0 < k := by simpa using h
        rw [if_pos h] at hsh
        have ho2s : (o ++ chDot).size ≤ 2000 := by rw [ByteArray.size_append]; have : chDot.size = 1 := rfl; omega
        have hd : o ++ (⟨#[46]⟩ : ByteArray) = o ++ chDot := rfl
        obtain ⟨o2, ho2⟩ : ∃ o2, o ++ chDot = o2 := ⟨_, rfl⟩
        rw [ho2] at hsh ho2s hd
        simp only [decide_eq_true h, hd, hgk, syl_def, word, nums, nats, zv, nv, bv, sv, VL, VB, BEq.rfl, V1, V2, V3, V4, V5, V6, V7, V8, V9, V10, V11, V12, V13, VE, Nat.reduceBEq, Nat.reduceAdd, Nat.reduceSub, Nat.reduceMul, Nat.reduceLeDiff, Nat.reduceLT, Nat.reduceEqDiff, Int.reduceBEq, Int.reduceBNe, Int.reduceLT, Int.reduceLE, Int.reduceAdd, Int.reduceSub, Int.reduceMul, kAgg, scD, List.all_cons, List.all_nil]
        refine ⟨by show o.size + 1 ≤ _; omega, ⟨Int.natCast_nonneg k, hk'⟩, ?_⟩
        obtain ⟨n, hn⟩ : ∃ n, s.e - s.b = n := ⟨_, rfl⟩
        rw [hn] at hsh
        refine LoopVC.mk (Y := Nat) (fun m => m ≤ n) (fun m => ⟨[(1, .c (word w)), (2, .bp 2 0), (6, .c (syls ss)), (8, sv (segF (fun i => peakB sc p (w.getD i Snd.zero)) o2 s.b m)), (9, nv k), (10, nv (s.b + m))], [(2, .cells [.c (word sc), zv p])]⟩) (fun m => n - m) ⟨0, Enter.id ?_, by omega⟩ ?_
        · simp only [syls, segF, Nat.add_zero, word, nums, nats, zv, nv, bv, sv, VL, VB, BEq.rfl, V1, V2, V3, V4, V5, V6, V7, V8, V9, V10, V11, V12, V13, VE, Nat.reduceBEq, Nat.reduceAdd, Nat.reduceSub, Nat.reduceMul, Nat.reduceLeDiff, Nat.reduceLT, Nat.reduceEqDiff, Int.reduceBEq, Int.reduceBNe, Int.reduceLT, Int.reduceLE, Int.reduceAdd, Int.reduceSub, Int.reduceMul, kAgg, scD, List.all_cons, List.all_nil]
        intro m hm
        obtain ⟨x, hx⟩ : ∃ x, segF (fun i => peakB sc p (w.getD i Snd.zero)) o2 s.b m = x := ⟨_, rfl⟩
        have hxs := segF_size (fun i => peakB sc p (w.getD i Snd.zero)) o2 s.b m
        have hx1 : segF (fun i => peakB sc p (w.getD i Snd.zero)) o2 s.b (m + 1) = x ++ (if peakB sc p (w.getD (s.b + m) Snd.zero) = true then chV else chC) := by rw [segF, hx]
        rw [hx] at hxs
        simp only [hx, hgk, syl_def, lt_nat, syls, word, nums, nats, zv, nv, bv, sv, VL, VB, BEq.rfl, V1, V2, V3, V4, V5, V6, V7, V8, V9, V10, V11, V12, V13, VE, Nat.reduceBEq, Nat.reduceAdd, Nat.reduceSub, Nat.reduceMul, Nat.reduceLeDiff, Nat.reduceLT, Nat.reduceEqDiff, Int.reduceBEq, Int.reduceBNe, Int.reduceLT, Int.reduceLE, Int.reduceAdd, Int.reduceSub, Int.reduceMul, kAgg, scD, List.all_cons, List.all_nil]
        refine ⟨⟨Int.natCast_nonneg k, hk'⟩, ?_⟩
        refine guardB.mk (fun h => ?_) (fun h => ?_)
        · have hm' : m < n := by
            have : s.b + m < s.e := by simpa using h
            omega
          clear h
          have hcn := hw (s.b + m)
          have hgs := getD_snd w (s.b + m) (by omega)
          obtain ⟨c, hc2⟩ : ∃ c, w.getD (s.b + m) Snd.zero = c := ⟨_, rfl⟩
          rw [hc2] at hcn hx1 hgs
          have hpk := peak_ok sc p c hsc hcn
          rw [snd_def] at hpk hgs
          simp only [hgs, word, nums, nats, zv, nv, bv, sv, VL, VB, BEq.rfl, V1, V2, V3, V4, V5, V6, V7, V8, V9, V10, V11, V12, V13, VE, Nat.reduceBEq, Nat.reduceAdd, Nat.reduceSub, Nat.reduceMul, Nat.reduceLeDiff, Nat.reduceLT, Nat.reduceEqDiff, Int.reduceBEq, Int.reduceBNe, Int.reduceLT, Int.reduceLE, Int.reduceAdd, Int.reduceSub, Int.reduceMul, kAgg, scD, List.all_cons, List.all_nil]
          refine ⟨⟨Int.natCast_nonneg _, by omega⟩, ?_⟩
          refine CallX.mk hpk rfl ?_
          have e3 : s.b + m + 1 = s.b + (m + 1) := by omega
          cases hb : peakB sc p c with
          | true =>
            rw [hb, if_pos rfl] at hx1
            simp only [wrap_nat (k := s.b + m) (by omega), word, nums, nats, zv, nv, bv, sv, VL, VB, BEq.rfl, V1, V2, V3, V4, V5, V6, V7, V8, V9, V10, V11, V12, V13, VE, Nat.reduceBEq, Nat.reduceAdd, Nat.reduceSub, Nat.reduceMul, Nat.reduceLeDiff, Nat.reduceLT, Nat.reduceEqDiff, Int.reduceBEq, Int.reduceBNe, Int.reduceLT, Int.reduceLE, Int.reduceAdd, Int.reduceSub, Int.reduceMul, kAgg, scD, List.all_cons, List.all_nil]
            refine ⟨by show x.size + 1 ≤ _; omega, m + 1, Enter.id ?_, by omega, by show n - (m + 1) < n - m; omega⟩
            simp only [hx1, e3, word, nums, nats, zv, nv, bv, sv, VL, VB, BEq.rfl, V1, V2, V3, V4, V5, V6, V7, V8, V9, V10, V11, V12, V13, VE, Nat.reduceBEq, Nat.reduceAdd, Nat.reduceSub, Nat.reduceMul, Nat.reduceLeDiff, Nat.reduceLT, Nat.reduceEqDiff, Int.reduceBEq, Int.reduceBNe, Int.reduceLT, Int.reduceLE, Int.reduceAdd, Int.reduceSub, Int.reduceMul, kAgg, scD, List.all_cons, List.all_nil]
            rfl
          | false =>
            rw [hb, if_neg (by simp)] at hx1
            simp only [wrap_nat (k := s.b + m) (by omega), word, nums, nats, zv, nv, bv, sv, VL, VB, BEq.rfl, V1, V2, V3, V4, V5, V6, V7, V8, V9, V10, V11, V12, V13, VE, Nat.reduceBEq, Nat.reduceAdd, Nat.reduceSub, Nat.reduceMul, Nat.reduceLeDiff, Nat.reduceLT, Nat.reduceEqDiff, Int.reduceBEq, Int.reduceBNe, Int.reduceLT, Int.reduceLE, Int.reduceAdd, Int.reduceSub, Int.reduceMul, kAgg, scD, List.all_cons, List.all_nil]
            refine ⟨by show x.size + 1 ≤ _; omega, m + 1, Enter.id ?_, by omega, by show n - (m + 1) < n - m; omega⟩
            simp only [hx1, e3, word, nums, nats, zv, nv, bv, sv, VL, VB, BEq.rfl, V1, V2, V3, V4, V5, V6, V7, V8, V9, V10, V11, V12, V13, VE, Nat.reduceBEq, Nat.reduceAdd, Nat.reduceSub, Nat.reduceMul, Nat.reduceLeDiff, Nat.reduceLT, Nat.reduceEqDiff, Int.reduceBEq, Int.reduceBNe, Int.reduceLT, Int.reduceLE, Int.reduceAdd, Int.reduceSub, Int.reduceMul, kAgg, scD, List.all_cons, List.all_nil]
            rfl
        · have hm' : m = n := by
            have : ¬ s.b + m < s.e := by simpa using h
            omega
          rw [hm'] at hx
          rw [hx] at hsh
          simp only [wrap_nat (k := k) (by omega), word, nums, nats, zv, nv, bv, sv, VL, VB, BEq.rfl, V1, V2, V3, V4, V5, V6, V7, V8, V9, V10, V11, V12, V13, VE, Nat.reduceBEq, Nat.reduceAdd, Nat.reduceSub, Nat.reduceMul, Nat.reduceLeDiff, Nat.reduceLT, Nat.reduceEqDiff, Int.reduceBEq, Int.reduceBNe, Int.reduceLT, Int.reduceLE, Int.reduceAdd, Int.reduceSub, Int.reduceMul, kAgg, scD, List.all_cons, List.all_nil]
          refine ⟨k + 1, Enter.id ?_, by omega, by show ss.length - (k + 1) < ss.length - k; omega⟩
          simp only [hsh, word, nums, nats, zv, nv, bv, sv, VL, VB, BEq.rfl, V1, V2, V3, V4, V5, V6, V7, V8, V9, V10, V11, V12, V13, VE, Nat.reduceBEq, Nat.reduceAdd, Nat.reduceSub, Nat.reduceMul, Nat.reduceLeDiff, Nat.reduceLT, Nat.reduceEqDiff, Int.reduceBEq, Int.reduceBNe, Int.reduceLT, Int.reduceLE, Int.reduceAdd, Int.reduceSub, Int.reduceMul, kAgg, scD, List.all_cons, List.all_nil]
      · have h : ¬ 0 < k := by simpa using h
        rw [if_neg h] at hsh
        obtain ⟨o2, ho2⟩ : ∃ o2, o2 = o := ⟨_, rfl⟩
        have ho2s : o2.size ≤ 2000 := by rw [ho2]; omega
        subst ho2
        simp only [decide_eq_false h, hgk, syl_def, word, nums, nats, zv, nv, bv, sv, VL, VB, BEq.rfl, V1, V2, V3, V4, V5, V6, V7, V8, V9, V10, V11, V12, V13, VE, Nat.reduceBEq, Nat.reduceAdd, Nat.reduceSub, Nat.reduceMul, Nat.reduceLeDiff, Nat.reduceLT, Nat.reduceEqDiff, Int.reduceBEq, Int.reduceBNe, Int.reduceLT, Int.reduceLE, Int.reduceAdd, Int.reduceSub, Int.reduceMul, kAgg, scD, List.all_cons, List.all_nil]
        refine ⟨⟨Int.natCast_nonneg k, hk'⟩, ?_⟩
        obtain ⟨n, hn⟩ : ∃ n, s.e - s.b = n := ⟨_, rfl⟩
        rw [hn] at hsh
        refine LoopVC.mk (Y := Nat) (fun m => m ≤ n) (fun m => ⟨[(1, .c (word w)), (2, .bp 2 0), (6, .c (syls ss)), (8, sv (segF (fun i => peakB sc p (w.getD i Snd.zero)) o2 s.b m)), (9, nv k), (10, nv (s.b + m))], [(2, .cells [.c (word sc), zv p])]⟩) (fun m => n - m) ⟨0, Enter.id ?_, by omega⟩ ?_
        · simp only [syls, segF, Nat.add_zero, word, nums, nats, zv, nv, bv, sv, VL, VB, BEq.rfl, V1, V2, V3, V4, V5, V6, V7, V8, V9, V10, V11, V12, V13, VE, Nat.reduceBEq, Nat.reduceAdd, Nat.reduceSub, Nat.reduceMul, Nat.reduceLeDiff, Nat.reduceLT, Nat.reduceEqDiff, Int.reduceBEq, Int.reduceBNe, Int.reduceLT, Int.reduceLE, Int.reduceAdd, Int.reduceSub, Int.reduceMul, kAgg, scD, List.all_cons, List.all_nil]
        intro m hm
        obtain ⟨x, hx⟩ : ∃ x, segF (fun i => peakB sc p (w.getD i Snd.zero)) o2 s.b m = x := ⟨_, rfl⟩
        have hxs := segF_size (fun i => peakB sc p (w.getD i Snd.zero)) o2 s.b m
        have hx1 : segF (fun i => peakB sc p (w.getD i Snd.zero)) o2 s.b (m + 1) = x ++ (if peakB sc p (w.getD (s.b + m) Snd.zero) = true then chV else chC) := by rw [segF, hx]
        rw [hx] at hxs
        simp only [hx, hgk, syl_def, lt_nat, syls, word, nums, nats, zv, nv, bv, sv, VL, VB, BEq.rfl, V1, V2, V3, V4, V5, V6, V7, V8, V9, V10, V11, V12, V13, VE, Nat.reduceBEq, Nat.reduceAdd, Nat.reduceSub, Nat.reduceMul, Nat.reduceLeDiff, Nat.reduceLT, Nat.reduceEqDiff, Int.reduceBEq, Int.reduceBNe, Int.reduceLT, Int.reduceLE, Int.reduceAdd, Int.reduceSub, Int.reduceMul, kAgg, scD, List.all_cons, List.all_nil]
        refine ⟨⟨Int.natCast_nonneg k, hk'⟩, ?_⟩
        refine guardB.mk (fun h => ?_) (fun h => ?_)
        · have hm' : m < n := by
            have : s.b + m < s.e := by simpa using h
            omega
          clear h
          have hcn := hw (s.b + m)
          have hgs := getD_snd w (s.b + m) (by omega)
          obtain ⟨c, hc2⟩ : ∃ c, w.getD (s.b + m) Snd.zero = c := ⟨_, rfl⟩
          rw [hc2] at hcn hx1 hgs
          have hpk := peak_ok sc p c hsc hcn
          rw [snd_def] at hpk hgs
          simp only [hgs, word, nums, nats, zv, nv, bv, sv, VL, VB, BEq.rfl, V1, V2, V3, V4, V5, V6, V7, V8, V9, V10, V11, V12, V13, VE, Nat.reduceBEq, Nat.reduceAdd, Nat.reduceSub, Nat.reduceMul, Nat.reduceLeDiff, Nat.reduceLT, Nat.reduceEqDiff, Int.reduceBEq, Int.reduceBNe, Int.reduceLT, Int.reduceLE, Int.reduceAdd, Int.reduceSub, Int.reduceMul, kAgg, scD, List.all_cons, List.all_nil]
          refine ⟨⟨Int.natCast_nonneg _, by omega⟩, ?_⟩
          refine CallX.mk hpk rfl ?_
          have e3 : s.b + m + 1 = s.b + (m + 1) := by omega
          cases hb : peakB sc p c with
          | true =>
            rw [hb, if_pos rfl] at hx1
            simp only [wrap_nat (k := s.b + m) (by omega), word, nums, nats, zv, nv, bv, sv, VL, VB, BEq.rfl, V1, V2, V3, V4, V5, V6, V7, V8, V9, V10, V11, V12, V13, VE, Nat.reduceBEq, Nat.reduceAdd, Nat.reduceSub, Nat.reduceMul, Nat.reduceLeDiff, Nat.reduceLT, Nat.reduceEqDiff, Int.reduceBEq, Int.reduceBNe, Int.reduceLT, Int.reduceLE, Int.reduceAdd, Int.reduceSub, Int.reduceMul, kAgg, scD, List.all_cons, List.all_nil]
            refine ⟨by show x.size + 1 ≤ _; omega, m + 1, Enter.id ?_, by omega, by show n - (m + 1) < n - m; omega⟩
            simp only [hx1, e3, word, nums, nats, zv, nv, bv, sv, VL, VB, BEq.rfl, V1, V2, V3, V4, V5, V6, V7, V8, V9, V10, V11, V12, V13, VE, Nat.reduceBEq, Nat.reduceAdd, Nat.reduceSub, Nat.reduceMul, Nat.reduceLeDiff, Nat.reduceLT, Nat.reduceEqDiff, Int.reduceBEq, Int.reduceBNe, Int.reduceLT, Int.reduceLE, Int.reduceAdd, Int.reduceSub, Int.reduceMul, kAgg, scD, List.all_cons, List.all_nil]
            rfl
          | false =>
            rw [hb, if_neg (by simp)] at hx1
            simp only [wrap_nat (k := s.b + m) (by omega), word, nums, nats, zv, nv, bv, sv, VL, VB, BEq.rfl, V1, V2, V3, V4, V5, V6, V7, V8, V9, V10, V11, V12, V13, VE, Nat.reduceBEq, Nat.reduceAdd, Nat.reduceSub, Nat.reduceMul, Nat.reduceLeDiff, Nat.reduceLT, Nat.reduceEqDiff, Int.reduceBEq, Int.reduceBNe, Int.reduceLT, Int.reduceLE, Int.reduceAdd, Int.reduceSub, Int.reduceMul, kAgg, scD, List.all_cons, List.all_nil]
            refine ⟨by show x.size + 1 ≤ _; omega, m + 1, Enter.id ?_, by omega, by show n - (m + 1) < n - m; omega⟩
            simp only [hx1, e3, word, nums, nats, zv, nv, bv, sv, VL, VB, BEq.rfl, V1, V2, V3, V4, V5, V6, V7, V8, V9, V10, V11, V12, V13, VE, Nat.reduceBEq, Nat.reduceAdd, Nat.reduceSub, Nat.reduceMul, Nat.reduceLeDiff, Nat.reduceLT, Nat.reduceEqDiff, Int.reduceBEq, Int.reduceBNe, Int.reduceLT, Int.reduceLE, Int.reduceAdd, Int.reduceSub, Int.reduceMul, kAgg, scD, List.all_cons, List.all_nil]
            rfl
        · have hm' : m = n := by
            have : ¬ s.b + m < s.e := by simpa using h
            omega
          rw [hm'] at hx
          rw [hx] at hsh
          simp only [wrap_nat (k := k) (by omega), word, nums, nats, zv, nv, bv, sv, VL, VB, BEq.rfl, V1, V2, V3, V4, V5, V6, V7, V8, V9, V10, V11, V12, V13, VE, Nat.reduceBEq, Nat.reduceAdd, Nat.reduceSub, Nat.reduceMul, Nat.reduceLeDiff, Nat.reduceLT, Nat.reduceEqDiff, Int.reduceBEq, Int.reduceBNe, Int.reduceLT, Int.reduceLE, Int.reduceAdd, Int.reduceSub, Int.reduceMul, kAgg, scD, List.all_cons, List.all_nil]
          refine ⟨k + 1, Enter.id ?_, by omega, by show ss.length - (k + 1) < ss.length - k; omega⟩
          simp only [hsh, word, nums, nats, zv, nv, bv, sv, VL, VB, BEq.rfl, V1, V2, V3, V4, V5, V6, V7, V8, V9, V10, V11, V12, V13, VE, Nat.reduceBEq, Nat.reduceAdd, Nat.reduceSub, Nat.reduceMul, Nat.reduceLeDiff, Nat.reduceLT, Nat.reduceEqDiff, Int.reduceBEq, Int.reduceBNe, Int.reduceLT, Int.reduceLE, Int.reduceAdd, Int.reduceSub, Int.reduceMul, kAgg, scD, List.all_cons, List.all_nil]
    · have hk' : k = ss.length := by
        have : ¬ k < ss.length := by simpa using h
        omega
      simp only [hk', word, nums, nats, zv, nv, bv, sv, VL, VB, BEq.rfl, V1, V2, V3, V4, V5, V6, V7, V8, V9, V10, V11, V12, V13, VE, Nat.reduceBEq, Nat.reduceAdd, Nat.reduceSub, Nat.reduceMul, Nat.reduceLeDiff, Nat.reduceLT, Nat.reduceEqDiff, Int.reduceBEq, Int.reduceBNe, Int.reduceLT, Int.reduceLE, Int.reduceAdd, Int.reduceSub, Int.reduceMul, kAgg, scD, List.all_cons, List.all_nil]
  · have h1 : (checkE sc p [w] != 0) = true := by simpa using hc
    simp only [h1, splitS, if_neg hc, List.length_nil, shapeTo, word, nums, nats, zv, nv, bv, sv, VL, VB, BEq.rfl, V1, V2, V3, V4, V5, V6, V7, V8, V9, V10, V11, V12, V13, VE, Nat.reduceBEq, Nat.reduceAdd, Nat.reduceSub, Nat.reduceMul, Nat.reduceLeDiff, Nat.reduceLT, Nat.reduceEqDiff, Int.reduceBEq, Int.reduceBNe, Int.reduceLT, Int.reduceLE, Int.reduceAdd, Int.reduceSub, Int.reduceMul, kAgg, scD, List.all_cons, List.all_nil]
    rfl

/-! legal -/
def fallsB (sc : List Snd) (p : Int) (w : List Snd) (i : Nat) : Bool := decide (sonN sc p (w.getD i Snd.zero) < sonN sc p (w.getD (i - 1) Snd.zero))
def codaB (sc : List Snd) (p : Int) (w : List Snd) (a b : Nat) : Bool := (List.range b).all fun i => !decide (a ≤ i) || fallsB sc p w i
def okSyl (sc : List Snd) (p : Int) (w : List Snd) (s : Syl) : Bool := !decide (s.a = s.e) && (risesB sc p w s.b (s.a + 1) && codaB sc p w s.c s.e)
def legalB (sc : List Snd) (p : Int) (w : List Snd) : Bool := decide (checkE sc p [w] = 0) && (splitS sc p w).all (okSyl sc p w)
theorem rLegal_ok (sc : List Snd) (p : Int) (w : List Snd) (hsc : AllIn sc) (hw : AllIn w) : Ok Try.prog E 28 [.ag (ruleD sc p), .c (word w)] (.tp [bv (legalB sc p w), zv (checkE sc p [w])]) := by
  refine ok_of_vc (L := [(13, [(5, 6), (5, 10), (5, 11)])]) (ts := [4, 5]) envOK mixed Try.func28 rfl (by kernel_rfl) rfl (by kernel_rfl) rfl fun hl => ?_
  simp only [Try.f28, word, nums, nats, zv, nv, bv, sv, VL, VB, BEq.rfl, V1, V2, V3, V4, V5, V6, V7, V8, V9, V10, V11, V12, V13, VE, Nat.reduceBEq, Nat.reduceAdd, Nat.reduceSub, Nat.reduceMul, Nat.reduceLeDiff, Nat.reduceLT, Nat.reduceEqDiff, Int.reduceBEq, Int.reduceBNe, Int.reduceLT, Int.reduceLE, Int.reduceAdd, Int.reduceSub, Int.reduceMul, kAgg, scD, List.all_cons, List.all_nil]
  refine CallX.mk (rSplit_ok sc p w hsc hw) rfl ?_
  have hlen := splitS_len sc p w
  have hin := fun s hs => splitS_in (s := s) (sc := sc) (p := p) (w := w) hs
  rw [legalB]
  by_cases hc : checkE sc p [w] = 0
  · obtain ⟨hr, hwl⟩ := checkE_zero hc
    obtain ⟨ss, hs⟩ : ∃ ss, splitS sc p w = ss := ⟨_, rfl⟩
    rw [hs] at hlen hin ⊢
    simp only [hc, syls, decide_true, Bool.true_and, word, nums, nats, zv, nv, bv, sv, VL, VB, BEq.rfl, V1, V2, V3, V4, V5, V6, V7, V8, V9, V10, V11, V12, V13, VE, Nat.reduceBEq, Nat.reduceAdd, Nat.reduceSub, Nat.reduceMul, Nat.reduceLeDiff, Nat.reduceLT, Nat.reduceEqDiff, Int.reduceBEq, Int.reduceBNe, Int.reduceLT, Int.reduceLE, Int.reduceAdd, Int.reduceSub, Int.reduceMul, kAgg, scD, List.all_cons, List.all_nil]
    refine LoopVC.mk (Y := Nat) (fun k => k ≤ ss.length ∧ (ss.take k).all (okSyl sc p w) = true) (fun k => ⟨[(1, .c (word w)), (2, .bp 2 0), (6, .c (syls ss)), (8, nv k)], [(2, .cells [.c (word sc), zv p])]⟩) (fun k => ss.length - k) ⟨0, Enter.id ?_, by omega, rfl⟩ ?_
    · simp only [syls, word, nums, nats, zv, nv, bv, sv, VL, VB, BEq.rfl, V1, V2, V3, V4, V5, V6, V7, V8, V9, V10, V11, V12, V13, VE, Nat.reduceBEq, Nat.reduceAdd, Nat.reduceSub, Nat.reduceMul, Nat.reduceLeDiff, Nat.reduceLT, Nat.reduceEqDiff, Int.reduceBEq, Int.reduceBNe, Int.reduceLT, Int.reduceLE, Int.reduceAdd, Int.reduceSub, Int.reduceMul, kAgg, scD, List.all_cons, List.all_nil]
      exact rfl
    rintro k ⟨hk, hpre⟩
    simp only [lt_nat, syls, word, nums, nats, zv, nv, bv, sv, VL, VB, BEq.rfl, V1, V2, V3, V4, V5, V6, V7, V8, V9, V10, V11, V12, V13, VE, Nat.reduceBEq, Nat.reduceAdd, Nat.reduceSub, Nat.reduceMul, Nat.reduceLeDiff, Nat.reduceLT, Nat.reduceEqDiff, Int.reduceBEq, Int.reduceBNe, Int.reduceLT, Int.reduceLE, Int.reduceAdd, Int.reduceSub, Int.reduceMul, kAgg, scD, List.all_cons, List.all_nil]
    refine guardB.mk (fun h => ?_) (fun h => ?_)
    · have hk' : k < ss.length := by simpa using h
      clear h
      have hts := all_take_succ Syl.zero hk' (okSyl sc p w)
      have hf := fun h => all_false_at (l := ss) Syl.zero hk' (p := okSyl sc p w) h
      rw [hpre, Bool.true_and] at hts
      have hgk := getD_syl ss k hk'
      have hin := hin _ (getD_mem Syl.zero hk')
      obtain ⟨s, hs2⟩ : ∃ s, ss.getD k Syl.zero = s := ⟨_, rfl⟩
      rw [hs2] at hgk hin hts hf
      have e0 : ((s.a : Int) == (s.e : Int)) = decide (s.a = s.e) := eq_nat _ _
      simp only [hgk, syl_def, e0, word, nums, nats, zv, nv, bv, sv, VL, VB, BEq.rfl, V1, V2, V3, V4, V5, V6, V7, V8, V9, V10, V11, V12, V13, VE, Nat.reduceBEq, Nat.reduceAdd, Nat.reduceSub, Nat.reduceMul, Nat.reduceLeDiff, Nat.reduceLT, Nat.reduceEqDiff, Int.reduceBEq, Int.reduceBNe, Int.reduceLT, Int.reduceLE, Int.reduceAdd, Int.reduceSub, Int.reduceMul, kAgg, scD, List.all_cons, List.all_nil]
      refine ⟨⟨Int.natCast_nonneg k, hk'⟩, ?_⟩
      refine guardB.mk (fun h => ?_) (fun h => ?_)
      · have hff := hf (by rw [okSyl, h]; rfl)
        simp only [h, hff, word, nums, nats, zv, nv, bv, sv, VL, VB, BEq.rfl, V1, V2, V3, V4, V5, V6, V7, V8, V9, V10, V11, V12, V13, VE, Nat.reduceBEq, Nat.reduceAdd, Nat.reduceSub, Nat.reduceMul, Nat.reduceLeDiff, Nat.reduceLT, Nat.reduceEqDiff, Int.reduceBEq, Int.reduceBNe, Int.reduceLT, Int.reduceLE, Int.reduceAdd, Int.reduceSub, Int.reduceMul, kAgg, scD, List.all_cons, List.all_nil]
      have hne : ¬ s.a = s.e := by simpa using h
      have hri := rises_ok sc p w s.b (s.a + 1) hsc hw hwl (by omega) (by omega)
      simp only [h, wrap_nat (k := s.a) (by omega), word, nums, nats, zv, nv, bv, sv, VL, VB, BEq.rfl, V1, V2, V3, V4, V5, V6, V7, V8, V9, V10, V11, V12, V13, VE, Nat.reduceBEq, Nat.reduceAdd, Nat.reduceSub, Nat.reduceMul, Nat.reduceLeDiff, Nat.reduceLT, Nat.reduceEqDiff, Int.reduceBEq, Int.reduceBNe, Int.reduceLT, Int.reduceLE, Int.reduceAdd, Int.reduceSub, Int.reduceMul, kAgg, scD, List.all_cons, List.all_nil]
      refine CallX.mk hri rfl ?_
      cases hrb : risesB sc p w s.b (s.a + 1) with
      | false =>
        have hff := hf (by rw [okSyl, hrb, Bool.false_and, Bool.and_false])
        simp only [hff, word, nums, nats, zv, nv, bv, sv, VL, VB, BEq.rfl, V1, V2, V3, V4, V5, V6, V7, V8, V9, V10, V11, V12, V13, VE, Nat.reduceBEq, Nat.reduceAdd, Nat.reduceSub, Nat.reduceMul, Nat.reduceLeDiff, Nat.reduceLT, Nat.reduceEqDiff, Int.reduceBEq, Int.reduceBNe, Int.reduceLT, Int.reduceLE, Int.reduceAdd, Int.reduceSub, Int.reduceMul, kAgg, scD, List.all_cons, List.all_nil]
      | true =>
        have hoks : okSyl sc p w s = codaB sc p w s.c s.e := by rw [okSyl, h, hrb]; rfl
        rw [hoks] at hts hf
        simp only [word, nums, nats, zv, nv, bv, sv, VL, VB, BEq.rfl, V1, V2, V3, V4, V5, V6, V7, V8, V9, V10, V11, V12, V13, VE, Nat.reduceBEq, Nat.reduceAdd, Nat.reduceSub, Nat.reduceMul, Nat.reduceLeDiff, Nat.reduceLT, Nat.reduceEqDiff, Int.reduceBEq, Int.reduceBNe, Int.reduceLT, Int.reduceLE, Int.reduceAdd, Int.reduceSub, Int.reduceMul, kAgg, scD, List.all_cons, List.all_nil]
        refine LoopVC.mk (Y := Nat) (fun i => s.c ≤ i ∧ i ≤ s.e ∧ (List.range i).all (fun i => !decide (s.c ≤ i) || fallsB sc p w i) = true) (fun i => ⟨[(1, .c (word w)), (2, .bp 2 0), (6, .c (syls ss)), (8, nv k), (9, .bp 9 0), (10, nv i)], [(2, .cells [.c (word sc), zv p]), (9, .cells [nv s.b, nv s.a, nv s.c, nv s.e])]⟩) (fun i => s.e - i) ⟨s.c, Enter.id ?_, by omega, by omega, ?_⟩ ?_
        · simp only [syls, word, nums, nats, zv, nv, bv, sv, VL, VB, BEq.rfl, V1, V2, V3, V4, V5, V6, V7, V8, V9, V10, V11, V12, V13, VE, Nat.reduceBEq, Nat.reduceAdd, Nat.reduceSub, Nat.reduceMul, Nat.reduceLeDiff, Nat.reduceLT, Nat.reduceEqDiff, Int.reduceBEq, Int.reduceBNe, Int.reduceLT, Int.reduceLE, Int.reduceAdd, Int.reduceSub, Int.reduceMul, kAgg, scD, List.all_cons, List.all_nil]
        · rw [List.all_eq_true]
          intro i hi
          have hi : i < s.c := by simpa using hi
          rw [decide_eq_false (by omega)]; rfl
        rintro i ⟨hi0, hi1, hprei⟩
        simp only [lt_nat, syls, word, nums, nats, zv, nv, bv, sv, VL, VB, BEq.rfl, V1, V2, V3, V4, V5, V6, V7, V8, V9, V10, V11, V12, V13, VE, Nat.reduceBEq, Nat.reduceAdd, Nat.reduceSub, Nat.reduceMul, Nat.reduceLeDiff, Nat.reduceLT, Nat.reduceEqDiff, Int.reduceBEq, Int.reduceBNe, Int.reduceLT, Int.reduceLE, Int.reduceAdd, Int.reduceSub, Int.reduceMul, kAgg, scD, List.all_cons, List.all_nil]
        refine guardB.mk (fun h => ?_) (fun h => ?_)
        · have hi' : i < s.e := by simpa using h
          clear h
          have hin1 := hw i
          have hin2 := hw (i - 1)
          have hsb : fallsB sc p w i = decide (sonN sc p (w.getD i Snd.zero) < sonN sc p (w.getD (i - 1) Snd.zero)) := rfl
          have hrs := all_range_succ (p := fun i => !decide (s.c ≤ i) || fallsB sc p w i) (k := i)
          have hrf := fun h => all_range_false (p := fun i => !decide (s.c ≤ i) || fallsB sc p w i) hi' h
          rw [hprei, Bool.true_and] at hrs
          simp only [decide_eq_true hi0, Bool.not_true, Bool.false_or] at hrs hrf
          obtain ⟨j, hj⟩ : ∃ j, i - 1 = j := ⟨_, rfl⟩
          rw [hj] at hin2 hsb
          have hwj : IntKind.i64.wrap ((i : Int) - 1) = (j : Int) := by rw [wrap_in (by omega) (by omega)]; omega
          obtain ⟨c, hc2⟩ : ∃ c, w.getD i Snd.zero = c := ⟨_, rfl⟩
          obtain ⟨d, hd⟩ : ∃ d, w.getD j Snd.zero = d := ⟨_, rfl⟩
          rw [hc2] at hin1 hsb
          rw [hd] at hin2 hsb
          have h1 := rSon_ok sc p c hsc hin1
          have h2 := rSon_ok sc p d hsc hin2
          rw [snd_def] at h1 h2
          simp only [getD_snd w i (by omega), hc2, snd_def, word, nums, nats, zv, nv, bv, sv, VL, VB, BEq.rfl, V1, V2, V3, V4, V5, V6, V7, V8, V9, V10, V11, V12, V13, VE, Nat.reduceBEq, Nat.reduceAdd, Nat.reduceSub, Nat.reduceMul, Nat.reduceLeDiff, Nat.reduceLT, Nat.reduceEqDiff, Int.reduceBEq, Int.reduceBNe, Int.reduceLT, Int.reduceLE, Int.reduceAdd, Int.reduceSub, Int.reduceMul, kAgg, scD, List.all_cons, List.all_nil]
          refine ⟨⟨Int.natCast_nonneg i, by omega⟩, ?_⟩
          refine CallX.mk h1 rfl ?_
          simp only [hwj, getD_snd w j (by omega), hd, snd_def, word, nums, nats, zv, nv, bv, sv, VL, VB, BEq.rfl, V1, V2, V3, V4, V5, V6, V7, V8, V9, V10, V11, V12, V13, VE, Nat.reduceBEq, Nat.reduceAdd, Nat.reduceSub, Nat.reduceMul, Nat.reduceLeDiff, Nat.reduceLT, Nat.reduceEqDiff, Int.reduceBEq, Int.reduceBNe, Int.reduceLT, Int.reduceLE, Int.reduceAdd, Int.reduceSub, Int.reduceMul, kAgg, scD, List.all_cons, List.all_nil]
          refine ⟨⟨Int.natCast_nonneg j, by omega⟩, ?_⟩
          refine CallX.mk h2 rfl ?_
          have e : decide ((sonN sc p d : Int) ≤ (sonN sc p c : Int)) = !fallsB sc p w i := by
            rw [hsb, ← decide_not]; congr 1; exact propext ⟨fun h => by omega, fun h => by omega⟩
          simp only [e, word, nums, nats, zv, nv, bv, sv, VL, VB, BEq.rfl, V1, V2, V3, V4, V5, V6, V7, V8, V9, V10, V11, V12, V13, VE, Nat.reduceBEq, Nat.reduceAdd, Nat.reduceSub, Nat.reduceMul, Nat.reduceLeDiff, Nat.reduceLT, Nat.reduceEqDiff, Int.reduceBEq, Int.reduceBNe, Int.reduceLT, Int.reduceLE, Int.reduceAdd, Int.reduceSub, Int.reduceMul, kAgg, scD, List.all_cons, List.all_nil]
          cases hsx : fallsB sc p w i with
          | false =>
            have hff := hf (hrf hsx)
            simp only [hff, word, nums, nats, zv, nv, bv, sv, VL, VB, BEq.rfl, V1, V2, V3, V4, V5, V6, V7, V8, V9, V10, V11, V12, V13, VE, Nat.reduceBEq, Nat.reduceAdd, Nat.reduceSub, Nat.reduceMul, Nat.reduceLeDiff, Nat.reduceLT, Nat.reduceEqDiff, Int.reduceBEq, Int.reduceBNe, Int.reduceLT, Int.reduceLE, Int.reduceAdd, Int.reduceSub, Int.reduceMul, kAgg, scD, List.all_cons, List.all_nil]
          | true =>
            rw [hsx] at hrs
            simp only [wrap_nat (k := i) (by omega), word, nums, nats, zv, nv, bv, sv, VL, VB, BEq.rfl, V1, V2, V3, V4, V5, V6, V7, V8, V9, V10, V11, V12, V13, VE, Nat.reduceBEq, Nat.reduceAdd, Nat.reduceSub, Nat.reduceMul, Nat.reduceLeDiff, Nat.reduceLT, Nat.reduceEqDiff, Int.reduceBEq, Int.reduceBNe, Int.reduceLT, Int.reduceLE, Int.reduceAdd, Int.reduceSub, Int.reduceMul, kAgg, scD, List.all_cons, List.all_nil]
            refine ⟨i + 1, Enter.id ?_, ⟨by omega, by omega, hrs⟩, by show s.e - (i + 1) < s.e - i; omega⟩
            simp only [word, nums, nats, zv, nv, bv, sv, VL, VB, BEq.rfl, V1, V2, V3, V4, V5, V6, V7, V8, V9, V10, V11, V12, V13, VE, Nat.reduceBEq, Nat.reduceAdd, Nat.reduceSub, Nat.reduceMul, Nat.reduceLeDiff, Nat.reduceLT, Nat.reduceEqDiff, Int.reduceBEq, Int.reduceBNe, Int.reduceLT, Int.reduceLE, Int.reduceAdd, Int.reduceSub, Int.reduceMul, kAgg, scD, List.all_cons, List.all_nil]
        · have hi' : i = s.e := by
            have : ¬ i < s.e := by simpa using h
            omega
          rw [hi', ← codaB] at hprei
          rw [hprei] at hts
          simp only [wrap_nat (k := k) (by omega), word, nums, nats, zv, nv, bv, sv, VL, VB, BEq.rfl, V1, V2, V3, V4, V5, V6, V7, V8, V9, V10, V11, V12, V13, VE, Nat.reduceBEq, Nat.reduceAdd, Nat.reduceSub, Nat.reduceMul, Nat.reduceLeDiff, Nat.reduceLT, Nat.reduceEqDiff, Int.reduceBEq, Int.reduceBNe, Int.reduceLT, Int.reduceLE, Int.reduceAdd, Int.reduceSub, Int.reduceMul, kAgg, scD, List.all_cons, List.all_nil]
          refine ⟨k + 1, Enter.id ?_, ⟨by omega, hts⟩, by show ss.length - (k + 1) < ss.length - k; omega⟩
          simp only [word, nums, nats, zv, nv, bv, sv, VL, VB, BEq.rfl, V1, V2, V3, V4, V5, V6, V7, V8, V9, V10, V11, V12, V13, VE, Nat.reduceBEq, Nat.reduceAdd, Nat.reduceSub, Nat.reduceMul, Nat.reduceLeDiff, Nat.reduceLT, Nat.reduceEqDiff, Int.reduceBEq, Int.reduceBNe, Int.reduceLT, Int.reduceLE, Int.reduceAdd, Int.reduceSub, Int.reduceMul, kAgg, scD, List.all_cons, List.all_nil]
    · have hk' : k = ss.length := by
        have : ¬ k < ss.length := by simpa using h
        omega
      rw [hk', List.take_length] at hpre
      simp only [hpre, word, nums, nats, zv, nv, bv, sv, VL, VB, BEq.rfl, V1, V2, V3, V4, V5, V6, V7, V8, V9, V10, V11, V12, V13, VE, Nat.reduceBEq, Nat.reduceAdd, Nat.reduceSub, Nat.reduceMul, Nat.reduceLeDiff, Nat.reduceLT, Nat.reduceEqDiff, Int.reduceBEq, Int.reduceBNe, Int.reduceLT, Int.reduceLE, Int.reduceAdd, Int.reduceSub, Int.reduceMul, kAgg, scD, List.all_cons, List.all_nil]
  · have h1 : (checkE sc p [w] != 0) = true := by simpa using hc
    simp only [h1, decide_eq_false hc, word, nums, nats, zv, nv, bv, sv, VL, VB, BEq.rfl, V1, V2, V3, V4, V5, V6, V7, V8, V9, V10, V11, V12, V13, VE, Nat.reduceBEq, Nat.reduceAdd, Nat.reduceSub, Nat.reduceMul, Nat.reduceLeDiff, Nat.reduceLT, Nat.reduceEqDiff, Int.reduceBEq, Int.reduceBNe, Int.reduceLT, Int.reduceLE, Int.reduceAdd, Int.reduceSub, Int.reduceMul, kAgg, scD, List.all_cons, List.all_nil]
end Go.Cp
end

section
set_option linter.unusedVariables false
set_option linter.unusedSimpArgs false
set_option maxHeartbeats 4000000
set_option maxRecDepth 10000
namespace Go.Cp
open Go Go.Proofs Go.Vx

theorem syllables_ok (sc : List Snd) (p : Int) (lv : List Nat) : OkM Try.prog E 33 [.ag (ruleD sc p), .c (nats lv)] [] (.fn 57 [.bp 2001 0, .bp 2002 0]) [(2001, .cells [.c (nats lv)]), (2002, .cells [.c (word sc), zv p])] := by
  refine okM_of_vc (L := []) (ts := [4]) envOK mixed Try.func33 rfl (by kernel_rfl) rfl (by decide) (by kernel_rfl) rfl fun hl hlb => ?_
  simp only [Try.f33, word, nums, nats, zv, nv, bv, sv, VL, VB, BEq.rfl, V1, V2, V3, V4, V5, V6, V7, V8, V9, V10, V11, V12, V13, VE, Nat.reduceBEq, Nat.reduceAdd, Nat.reduceSub, Nat.reduceMul, Nat.reduceLeDiff, Nat.reduceLT, Nat.reduceEqDiff, Int.reduceBEq, Int.reduceBNe, Int.reduceLT, Int.reduceLE, Int.reduceAdd, Int.reduceSub, Int.reduceMul, kAgg, scD, List.all_cons, List.all_nil]
  refine Enter.mk [] [] [(2001, 3), (2002, 2)] ?_
  simp only [word, nums, nats, zv, nv, bv, sv, VL, VB, BEq.rfl, V1, V2, V3, V4, V5, V6, V7, V8, V9, V10, V11, V12, V13, VE, Nat.reduceBEq, Nat.reduceAdd, Nat.reduceSub, Nat.reduceMul, Nat.reduceLeDiff, Nat.reduceLT, Nat.reduceEqDiff, Int.reduceBEq, Int.reduceBNe, Int.reduceLT, Int.reduceLE, Int.reduceAdd, Int.reduceSub, Int.reduceMul, kAgg, scD, List.all_cons, List.all_nil]
def sylES (p : Int) (lv : List Nat) : List (List AV) := (splitL p lv).map fun s => [.ag s.enc]
def peaksN (p : Int) (lv : List Nat) (k : Nat) : List Nat := (List.range k).filter fun i => decide (p ≤ (lv.getD i 0 : Int))
theorem peaksN_succ (p : Int) (lv : List Nat) (k : Nat) : peaksN p lv (k + 1) = if p ≤ (lv.getD k 0 : Int) then peaksN p lv k ++ [k] else peaksN p lv k := by
  rw [peaksN, List.range_succ, List.filter_append]
  by_cases h : p ≤ (lv.getD k 0 : Int)
  · rw [if_pos h, List.filter_cons_of_pos (by simpa using h)]; rfl
  · rw [if_neg h, List.filter_cons_of_neg (by simpa using h), List.filter_nil, List.append_nil]; rfl
theorem peaksN_len (p : Int) (lv : List Nat) (k : Nat) : (peaksN p lv k).length ≤ k :=
  Nat.le_trans (List.length_filter_le _ _) (by simp)
theorem sylES_get {p : Int} {lv ps : List Nat} (hps : peaksL p lv = ps) (h0 : ¬ ps.length = 0) {k : Nat} (hk : k < ps.length) : (sylES p lv)[k]? = some [.ag (sylK lv ps lv.length k).enc] := by
  rw [sylES, splitL, hps, if_neg h0, sylsTo]
  simp [hk]
theorem sylES_len {p : Int} {lv ps : List Nat} (hps : peaksL p lv = ps) (h0 : ¬ ps.length = 0) : (sylES p lv).length = ps.length := by
  rw [sylES, List.length_map, splitL, hps, if_neg h0, sylsTo_len]
theorem syl_seq (sc : List Snd) (p : Int) (lv : List Nat) (hn : lv.length ≤ 32) : SeqM Try.prog E 57 [.bp 2001 0, .bp 2002 0] [(2001, .cells [.c (nats lv)]), (2002, .cells [.c (word sc), zv p])] (sylES p lv) := by
  refine seqM_of_vc (L := []) envOK mixed Try.func57 rfl (by kernel_rfl) rfl (by kernel_rfl) rfl fun hl l => ?_
  simp only [Try.f57, yieldV, word, nums, nats, zv, nv, bv, sv, VL, VB, BEq.rfl, V1, V2, V3, V4, V5, V6, V7, V8, V9, V10, V11, V12, V13, VE, Nat.reduceBEq, Nat.reduceAdd, Nat.reduceSub, Nat.reduceMul, Nat.reduceLeDiff, Nat.reduceLT, Nat.reduceEqDiff, Int.reduceBEq, Int.reduceBNe, Int.reduceLT, Int.reduceLE, Int.reduceAdd, Int.reduceSub, Int.reduceMul, kAgg, scD, List.all_cons, List.all_nil]
  refine LoopY.mk (Y := Nat) (fun k => k ≤ lv.length) (fun _ => some 0) (fun k => ⟨[(0, yieldV l), (1, .bp 2001 0), (2, .bp 2002 0), (4, .osl 1000 0), (11, .c (nats lv)), (12, nv lv.length), (13, nv k)], [(2001, .cells [.c (nats lv)]), (2002, .cells [.c (word sc), zv p]), (1000, .arr 3 0 ((peaksN p lv k).map nat))]⟩) (fun k => lv.length - k) ⟨0, rfl, Enter.mk [(4, (1000, 3))] [] [] ?_, by omega⟩ ?_
  · simp only [yieldV, word, nums, nats, zv, nv, bv, sv, VL, VB, BEq.rfl, V1, V2, V3, V4, V5, V6, V7, V8, V9, V10, V11, V12, V13, VE, Nat.reduceBEq, Nat.reduceAdd, Nat.reduceSub, Nat.reduceMul, Nat.reduceLeDiff, Nat.reduceLT, Nat.reduceEqDiff, Int.reduceBEq, Int.reduceBNe, Int.reduceLT, Int.reduceLE, Int.reduceAdd, Int.reduceSub, Int.reduceMul, kAgg, scD, List.all_cons, List.all_nil]
    exact ⟨rfl, ⟨rfl, rfl⟩, rfl⟩
  intro k hk
  simp only [lt_nat, yieldV, word, nums, nats, zv, nv, bv, sv, VL, VB, BEq.rfl, V1, V2, V3, V4, V5, V6, V7, V8, V9, V10, V11, V12, V13, VE, Nat.reduceBEq, Nat.reduceAdd, Nat.reduceSub, Nat.reduceMul, Nat.reduceLeDiff, Nat.reduceLT, Nat.reduceEqDiff, Int.reduceBEq, Int.reduceBNe, Int.reduceLT, Int.reduceLE, Int.reduceAdd, Int.reduceSub, Int.reduceMul, kAgg, scD, List.all_cons, List.all_nil]
  refine guardB.mk (fun h => ?_) (fun h => ?_)
  · have hk' : k < lv.length := by simpa using h
    clear h
    have hps := peaksN_succ p lv k
    have hpl := peaksN_len p lv k
    obtain ⟨c, hc⟩ : ∃ c, lv.getD k 0 = c := ⟨_, rfl⟩
    rw [hc] at hps
    simp only [getD_nat lv k hk', hc, nat_def, word, nums, nats, zv, nv, bv, sv, VL, VB, BEq.rfl, V1, V2, V3, V4, V5, V6, V7, V8, V9, V10, V11, V12, V13, VE, Nat.reduceBEq, Nat.reduceAdd, Nat.reduceSub, Nat.reduceMul, Nat.reduceLeDiff, Nat.reduceLT, Nat.reduceEqDiff, Int.reduceBEq, Int.reduceBNe, Int.reduceLT, Int.reduceLE, Int.reduceAdd, Int.reduceSub, Int.reduceMul, kAgg, scD, List.all_cons, List.all_nil]
    refine ⟨⟨Int.natCast_nonneg k, hk'⟩, ?_⟩
    refine guardB.mk (fun h => ?_) (fun h => ?_)
    · have h2 : p ≤ (c : Int) := by simpa using h
      rw [if_pos h2] at hps
      simp only [h, wrap_nat (k := k) (by omega), word, nums, nats, zv, nv, bv, sv, VL, VB, BEq.rfl, V1, V2, V3, V4, V5, V6, V7, V8, V9, V10, V11, V12, V13, VE, Nat.reduceBEq, Nat.reduceAdd, Nat.reduceSub, Nat.reduceMul, Nat.reduceLeDiff, Nat.reduceLT, Nat.reduceEqDiff, Int.reduceBEq, Int.reduceBNe, Int.reduceLT, Int.reduceLE, Int.reduceAdd, Int.reduceSub, Int.reduceMul, kAgg, scD, List.all_cons, List.all_nil]
      refine ⟨⟨by omega, allLen_nat [k]⟩, k + 1, rfl, Enter.id ?_, by omega, by show lv.length - (k + 1) < lv.length - k; omega⟩
      simp only [yieldV, hps, List.map_append, nat_def, word, nums, nats, zv, nv, bv, sv, VL, VB, BEq.rfl, V1, V2, V3, V4, V5, V6, V7, V8, V9, V10, V11, V12, V13, VE, Nat.reduceBEq, Nat.reduceAdd, Nat.reduceSub, Nat.reduceMul, Nat.reduceLeDiff, Nat.reduceLT, Nat.reduceEqDiff, Int.reduceBEq, Int.reduceBNe, Int.reduceLT, Int.reduceLE, Int.reduceAdd, Int.reduceSub, Int.reduceMul, kAgg, scD, List.all_cons, List.all_nil]
    · have h2 : ¬ p ≤ (c : Int) := by simpa using h
      rw [if_neg h2] at hps
      simp only [h, wrap_nat (k := k) (by omega), word, nums, nats, zv, nv, bv, sv, VL, VB, BEq.rfl, V1, V2, V3, V4, V5, V6, V7, V8, V9, V10, V11, V12, V13, VE, Nat.reduceBEq, Nat.reduceAdd, Nat.reduceSub, Nat.reduceMul, Nat.reduceLeDiff, Nat.reduceLT, Nat.reduceEqDiff, Int.reduceBEq, Int.reduceBNe, Int.reduceLT, Int.reduceLE, Int.reduceAdd, Int.reduceSub, Int.reduceMul, kAgg, scD, List.all_cons, List.all_nil]
      refine ⟨k + 1, rfl, Enter.id ?_, by omega, by show lv.length - (k + 1) < lv.length - k; omega⟩
      simp only [yieldV, hps, word, nums, nats, zv, nv, bv, sv, VL, VB, BEq.rfl, V1, V2, V3, V4, V5, V6, V7, V8, V9, V10, V11, V12, V13, VE, Nat.reduceBEq, Nat.reduceAdd, Nat.reduceSub, Nat.reduceMul, Nat.reduceLeDiff, Nat.reduceLT, Nat.reduceEqDiff, Int.reduceBEq, Int.reduceBNe, Int.reduceLT, Int.reduceLE, Int.reduceAdd, Int.reduceSub, Int.reduceMul, kAgg, scD, List.all_cons, List.all_nil]
  have hk' : k = lv.length := by
    have : ¬ k < lv.length := by simpa using h
    omega
  subst hk'
  clear h
  have hps : peaksL p lv = peaksN p lv lv.length := rfl
  have hpl := peaksN_len p lv lv.length
  obtain ⟨ps, hps2⟩ : ∃ ps, peaksN p lv lv.length = ps := ⟨_, rfl⟩
  rw [hps2] at hps hpl ⊢
  have e1 : ((ps.length : Int) == 0) = decide (ps.length = 0) := eq_nat _ 0
  have e2 : decide ((0 : Int) < (lv.length : Int)) = decide (0 < lv.length) := lt_nat 0 _
  simp only [e1, e2, word, nums, nats, zv, nv, bv, sv, VL, VB, BEq.rfl, V1, V2, V3, V4, V5, V6, V7, V8, V9, V10, V11, V12, V13, VE, Nat.reduceBEq, Nat.reduceAdd, Nat.reduceSub, Nat.reduceMul, Nat.reduceLeDiff, Nat.reduceLT, Nat.reduceEqDiff, Int.reduceBEq, Int.reduceBNe, Int.reduceLT, Int.reduceLE, Int.reduceAdd, Int.reduceSub, Int.reduceMul, kAgg, scD, List.all_cons, List.all_nil]
  refine guardB.mk (fun h => ?_) (fun h => ?_)
  · have h0 : ps.length = 0 := by simpa using h
    simp only [h, word, nums, nats, zv, nv, bv, sv, VL, VB, BEq.rfl, V1, V2, V3, V4, V5, V6, V7, V8, V9, V10, V11, V12, V13, VE, Nat.reduceBEq, Nat.reduceAdd, Nat.reduceSub, Nat.reduceMul, Nat.reduceLeDiff, Nat.reduceLT, Nat.reduceEqDiff, Int.reduceBEq, Int.reduceBNe, Int.reduceLT, Int.reduceLE, Int.reduceAdd, Int.reduceSub, Int.reduceMul, kAgg, scD, List.all_cons, List.all_nil]
    refine guardB.mk (fun h => ?_) (fun h => ?_)
    · have h1 : 0 < lv.length := by simpa using h
      have hes : sylES p lv = [[.ag (Syl.enc ⟨0, lv.length, lv.length, lv.length⟩)]] := by
        rw [sylES, splitL, hps, if_pos h0, if_neg (by omega)]; rfl
      have hget : (sylES p lv)[0]? = some [.ag (Syl.enc ⟨0, lv.length, lv.length, lv.length⟩)] := by rw [hes]; rfl
      have hlen : (sylES p lv).length = 1 := by rw [hes]; rfl
      simp only [h, word, nums, nats, zv, nv, bv, sv, VL, VB, BEq.rfl, V1, V2, V3, V4, V5, V6, V7, V8, V9, V10, V11, V12, V13, VE, Nat.reduceBEq, Nat.reduceAdd, Nat.reduceSub, Nat.reduceMul, Nat.reduceLeDiff, Nat.reduceLT, Nat.reduceEqDiff, Int.reduceBEq, Int.reduceBNe, Int.reduceLT, Int.reduceLE, Int.reduceAdd, Int.reduceSub, Int.reduceMul, kAgg, scD, List.all_cons, List.all_nil]
      refine YieldVC.mk (k := 0) rfl hget ?_ ?_
      · simp only [word, nums, nats, zv, nv, bv, sv, VL, VB, BEq.rfl, V1, V2, V3, V4, V5, V6, V7, V8, V9, V10, V11, V12, V13, VE, Nat.reduceBEq, Nat.reduceAdd, Nat.reduceSub, Nat.reduceMul, Nat.reduceLeDiff, Nat.reduceLT, Nat.reduceEqDiff, Int.reduceBEq, Int.reduceBNe, Int.reduceLT, Int.reduceLE, Int.reduceAdd, Int.reduceSub, Int.reduceMul, kAgg, scD, List.all_cons, List.all_nil]
        exact hlen.symm
      · simp only [word, nums, nats, zv, nv, bv, sv, VL, VB, BEq.rfl, V1, V2, V3, V4, V5, V6, V7, V8, V9, V10, V11, V12, V13, VE, Nat.reduceBEq, Nat.reduceAdd, Nat.reduceSub, Nat.reduceMul, Nat.reduceLeDiff, Nat.reduceLT, Nat.reduceEqDiff, Int.reduceBEq, Int.reduceBNe, Int.reduceLT, Int.reduceLE, Int.reduceAdd, Int.reduceSub, Int.reduceMul, kAgg, scD, List.all_cons, List.all_nil]
    · have h1 : ¬ 0 < lv.length := by simpa using h
      have hes : sylES p lv = [] := by
        rw [sylES, splitL, hps, if_pos h0, if_pos (by omega)]; rfl
      simp only [h, hes, word, nums, nats, zv, nv, bv, sv, VL, VB, BEq.rfl, V1, V2, V3, V4, V5, V6, V7, V8, V9, V10, V11, V12, V13, VE, Nat.reduceBEq, Nat.reduceAdd, Nat.reduceSub, Nat.reduceMul, Nat.reduceLeDiff, Nat.reduceLT, Nat.reduceEqDiff, Int.reduceBEq, Int.reduceBNe, Int.reduceLT, Int.reduceLE, Int.reduceAdd, Int.reduceSub, Int.reduceMul, kAgg, scD, List.all_cons, List.all_nil]
  have h0 : ¬ ps.length = 0 := by simpa using h
  have hget := fun k hk => sylES_get (p := p) (lv := lv) hps h0 (k := k) hk
  have hlen := sylES_len (p := p) (lv := lv) hps h0
  have hat := fun k hk => (filter_at (P := fun i => decide (p ≤ (lv.getD i 0 : Int))) (n := lv.length) (k := k) hk).1
  have hb2 := fun k hk => (filter_between (P := fun i => decide (p ≤ (lv.getD i 0 : Int))) (n := lv.length) (k := k) hk).1
  rw [← peaksL, hps] at hat hb2
  simp only [h, word, nums, nats, zv, nv, bv, sv, VL, VB, BEq.rfl, V1, V2, V3, V4, V5, V6, V7, V8, V9, V10, V11, V12, V13, VE, Nat.reduceBEq, Nat.reduceAdd, Nat.reduceSub, Nat.reduceMul, Nat.reduceLeDiff, Nat.reduceLT, Nat.reduceEqDiff, Int.reduceBEq, Int.reduceBNe, Int.reduceLT, Int.reduceLE, Int.reduceAdd, Int.reduceSub, Int.reduceMul, kAgg, scD, List.all_cons, List.all_nil]
  clear h
  refine LoopY.mk (Y := Nat) (fun k => k < ps.length) some (fun k => ⟨[(0, yieldV l), (1, .bp 2001 0), (4, .c (nats ps)), (7, nv (begN lv ps k)), (42, .c (nats ps)), (43, nv ps.length), (44, nv k)], [(2001, .cells [.c (nats lv)]), (2002, .cells [.c (word sc), zv p])]⟩) (fun k => ps.length - k) ⟨0, rfl, Enter.mk [] [1000] [] ?_, by omega⟩ ?_
  · simp only [yieldV, begN, word, nums, nats, zv, nv, bv, sv, VL, VB, BEq.rfl, V1, V2, V3, V4, V5, V6, V7, V8, V9, V10, V11, V12, V13, VE, Nat.reduceBEq, Nat.reduceAdd, Nat.reduceSub, Nat.reduceMul, Nat.reduceLeDiff, Nat.reduceLT, Nat.reduceEqDiff, Int.reduceBEq, Int.reduceBNe, Int.reduceLT, Int.reduceLE, Int.reduceAdd, Int.reduceSub, Int.reduceMul, kAgg, scD, List.all_cons, List.all_nil]
    exact ⟨rfl, rfl⟩
  intro k hk
  simp only [lt_nat, decide_eq_true hk, yieldV, word, nums, nats, zv, nv, bv, sv, VL, VB, BEq.rfl, V1, V2, V3, V4, V5, V6, V7, V8, V9, V10, V11, V12, V13, VE, Nat.reduceBEq, Nat.reduceAdd, Nat.reduceSub, Nat.reduceMul, Nat.reduceLeDiff, Nat.reduceLT, Nat.reduceEqDiff, Int.reduceBEq, Int.reduceBNe, Int.reduceLT, Int.reduceLE, Int.reduceAdd, Int.reduceSub, Int.reduceMul, kAgg, scD, List.all_cons, List.all_nil]
  have hx := hat k hk
  have hgk := getD_nat ps k hk
  have hget := hget k hk
  rw [sylK] at hget
  have hbk : begN lv ps k ≤ 32 := by
    cases k with
    | zero => exact Nat.zero_le _
    | succ k => 
      have := downE_le lv (ps.getD k 0) (ps.getD (k + 1) 0)
      rw [begN]; omega
  obtain ⟨x, hx2⟩ : ∃ x, ps.getD k 0 = x := ⟨_, rfl⟩
  obtain ⟨b, hb⟩ : ∃ b, begN lv ps k = b := ⟨_, rfl⟩
  rw [hx2, hb] at hget
  rw [hx2] at hx hgk
  have e3 : (((k + 1 : Nat) : Int) == (ps.length : Int)) = decide (k + 1 = ps.length) := eq_nat _ _
  simp only [hb, hgk, nat_def, wrap_nat (k := k) (by omega), e3, word, nums, nats, zv, nv, bv, sv, VL, VB, BEq.rfl, V1, V2, V3, V4, V5, V6, V7, V8, V9, V10, V11, V12, V13, VE, Nat.reduceBEq, Nat.reduceAdd, Nat.reduceSub, Nat.reduceMul, Nat.reduceLeDiff, Nat.reduceLT, Nat.reduceEqDiff, Int.reduceBEq, Int.reduceBNe, Int.reduceLT, Int.reduceLE, Int.reduceAdd, Int.reduceSub, Int.reduceMul, kAgg, scD, List.all_cons, List.all_nil]
  refine ⟨⟨Int.natCast_nonneg k, hk⟩, ?_⟩
  refine guardB.mk (fun h => ?_) (fun h => ?_)
  · have h1 : k + 1 = ps.length := by simpa using h
    rw [if_neg (by omega)] at hget
    simp only [h, wrap_nat (k := x) (by omega), word, nums, nats, zv, nv, bv, sv, VL, VB, BEq.rfl, V1, V2, V3, V4, V5, V6, V7, V8, V9, V10, V11, V12, V13, VE, Nat.reduceBEq, Nat.reduceAdd, Nat.reduceSub, Nat.reduceMul, Nat.reduceLeDiff, Nat.reduceLT, Nat.reduceEqDiff, Int.reduceBEq, Int.reduceBNe, Int.reduceLT, Int.reduceLE, Int.reduceAdd, Int.reduceSub, Int.reduceMul, kAgg, scD, List.all_cons, List.all_nil]
    refine YieldVC.mk (k := k) rfl hget ?_ ?_
    · simp only [word, nums, nats, zv, nv, bv, sv, VL, VB, BEq.rfl, V1, V2, V3, V4, V5, V6, V7, V8, V9, V10, V11, V12, V13, VE, Nat.reduceBEq, Nat.reduceAdd, Nat.reduceSub, Nat.reduceMul, Nat.reduceLeDiff, Nat.reduceLT, Nat.reduceEqDiff, Int.reduceBEq, Int.reduceBNe, Int.reduceLT, Int.reduceLE, Int.reduceAdd, Int.reduceSub, Int.reduceMul, kAgg, scD, List.all_cons, List.all_nil]
      rw [hlen, h1]
    · simp only [word, nums, nats, zv, nv, bv, sv, VL, VB, BEq.rfl, V1, V2, V3, V4, V5, V6, V7, V8, V9, V10, V11, V12, V13, VE, Nat.reduceBEq, Nat.reduceAdd, Nat.reduceSub, Nat.reduceMul, Nat.reduceLeDiff, Nat.reduceLT, Nat.reduceEqDiff, Int.reduceBEq, Int.reduceBNe, Int.reduceLT, Int.reduceLE, Int.reduceAdd, Int.reduceSub, Int.reduceMul, kAgg, scD, List.all_cons, List.all_nil]
  have h1 : k + 1 < ps.length := by
    have : ¬ k + 1 = ps.length := by simpa using h
    omega
  have hb2 := hb2 k h1
  have hy := hat (k + 1) h1
  have hgk1 := getD_nat ps (k + 1) h1
  rw [if_pos h1] at hget
  have hmb : begN lv ps (k + 1) = downE lv (ps.getD k 0) (ps.getD (k + 1) 0) := rfl
  rw [hx2] at hmb hb2
  obtain ⟨y, hy2⟩ : ∃ y, ps.getD (k + 1) 0 = y := ⟨_, rfl⟩
  rw [hy2] at hb2 hy hgk1 hmb
  obtain ⟨m, hm⟩ : ∃ m, begN lv ps (k + 1) = m := ⟨_, rfl⟩
  rw [hm] at hget hmb
  simp only [h, hgk1, nat_def, wrap_nat (k := k) (by omega), word, nums, nats, zv, nv, bv, sv, VL, VB, BEq.rfl, V1, V2, V3, V4, V5, V6, V7, V8, V9, V10, V11, V12, V13, VE, Nat.reduceBEq, Nat.reduceAdd, Nat.reduceSub, Nat.reduceMul, Nat.reduceLeDiff, Nat.reduceLT, Nat.reduceEqDiff, Int.reduceBEq, Int.reduceBNe, Int.reduceLT, Int.reduceLE, Int.reduceAdd, Int.reduceSub, Int.reduceMul, kAgg, scD, List.all_cons, List.all_nil]
  clear h
  refine ⟨⟨by omega, h1⟩, ?_⟩
  refine LoopY.mk (Y := Nat) (fun e => x < e ∧ e ≤ y ∧ m = downE lv x e) (fun _ => some k) (fun e => ⟨[(0, yieldV l), (1, .bp 2001 0), (4, .c (nats ps)), (7, nv b), (9, nv x), (10, nv e), (42, .c (nats ps)), (43, nv ps.length), (44, nv k)], [(2001, .cells [.c (nats lv)]), (2002, .cells [.c (word sc), zv p])]⟩) (fun e => e) ⟨y, rfl, Enter.id ?_, hb2, Nat.le_refl _, hmb⟩ ?_
  · simp only [yieldV, word, nums, nats, zv, nv, bv, sv, VL, VB, BEq.rfl, V1, V2, V3, V4, V5, V6, V7, V8, V9, V10, V11, V12, V13, VE, Nat.reduceBEq, Nat.reduceAdd, Nat.reduceSub, Nat.reduceMul, Nat.reduceLeDiff, Nat.reduceLT, Nat.reduceEqDiff, Int.reduceBEq, Int.reduceBNe, Int.reduceLT, Int.reduceLE, Int.reduceAdd, Int.reduceSub, Int.reduceMul, kAgg, scD, List.all_cons, List.all_nil]
  rintro e ⟨he, hey, hme⟩
  obtain ⟨j, rfl⟩ : ∃ j, e = j + 1 := ⟨e - 1, by omega⟩
  rw [downE] at hme
  have ej : IntKind.i64.wrap (((j + 1 : Nat) : Int) - 1) = (j : Int) := by rw [wrap_in (by omega) (by omega)]; omega
  have e4 : (((j + 1 : Nat) : Int) == ((x + 1 : Nat) : Int)) = decide (j = x) := by rw [int_beq]; congr 1; exact propext ⟨fun h => by omega, fun h => by omega⟩
  simp only [yieldV, wrap_nat (k := x) (by omega), e4, word, nums, nats, zv, nv, bv, sv, VL, VB, BEq.rfl, V1, V2, V3, V4, V5, V6, V7, V8, V9, V10, V11, V12, V13, VE, Nat.reduceBEq, Nat.reduceAdd, Nat.reduceSub, Nat.reduceMul, Nat.reduceLeDiff, Nat.reduceLT, Nat.reduceEqDiff, Int.reduceBEq, Int.reduceBNe, Int.reduceLT, Int.reduceLE, Int.reduceAdd, Int.reduceSub, Int.reduceMul, kAgg, scD, List.all_cons, List.all_nil]
  refine guardB.mk (fun h => ?_) (fun h => ?_)
  · have hj : j = x := by simpa using h
    have hst : j = x ∨ lv.getD (j + 1) 0 ≤ lv.getD j 0 := .inl hj
    simp only [h, wrap_nat (k := x) (by omega), word, nums, nats, zv, nv, bv, sv, VL, VB, BEq.rfl, V1, V2, V3, V4, V5, V6, V7, V8, V9, V10, V11, V12, V13, VE, Nat.reduceBEq, Nat.reduceAdd, Nat.reduceSub, Nat.reduceMul, Nat.reduceLeDiff, Nat.reduceLT, Nat.reduceEqDiff, Int.reduceBEq, Int.reduceBNe, Int.reduceLT, Int.reduceLE, Int.reduceAdd, Int.reduceSub, Int.reduceMul, kAgg, scD, List.all_cons, List.all_nil]
    have hm2 : m = j + 1 := by rw [hme, if_pos hst]
    subst hm2
    refine YieldVC.mk (k := k) rfl hget ?_ ?_
    · simp only [wrap_nat (k := k) (by omega), word, nums, nats, zv, nv, bv, sv, VL, VB, BEq.rfl, V1, V2, V3, V4, V5, V6, V7, V8, V9, V10, V11, V12, V13, VE, Nat.reduceBEq, Nat.reduceAdd, Nat.reduceSub, Nat.reduceMul, Nat.reduceLeDiff, Nat.reduceLT, Nat.reduceEqDiff, Int.reduceBEq, Int.reduceBNe, Int.reduceLT, Int.reduceLE, Int.reduceAdd, Int.reduceSub, Int.reduceMul, kAgg, scD, List.all_cons, List.all_nil]
      refine ⟨k + 1, rfl, Enter.id ?_, h1, by show ps.length - (k + 1) < ps.length - k; omega⟩
      simp only [yieldV, hm, word, nums, nats, zv, nv, bv, sv, VL, VB, BEq.rfl, V1, V2, V3, V4, V5, V6, V7, V8, V9, V10, V11, V12, V13, VE, Nat.reduceBEq, Nat.reduceAdd, Nat.reduceSub, Nat.reduceMul, Nat.reduceLeDiff, Nat.reduceLT, Nat.reduceEqDiff, Int.reduceBEq, Int.reduceBNe, Int.reduceLT, Int.reduceLE, Int.reduceAdd, Int.reduceSub, Int.reduceMul, kAgg, scD, List.all_cons, List.all_nil]
    · simp only [word, nums, nats, zv, nv, bv, sv, VL, VB, BEq.rfl, V1, V2, V3, V4, V5, V6, V7, V8, V9, V10, V11, V12, V13, VE, Nat.reduceBEq, Nat.reduceAdd, Nat.reduceSub, Nat.reduceMul, Nat.reduceLeDiff, Nat.reduceLT, Nat.reduceEqDiff, Int.reduceBEq, Int.reduceBNe, Int.reduceLT, Int.reduceLE, Int.reduceAdd, Int.reduceSub, Int.reduceMul, kAgg, scD, List.all_cons, List.all_nil]
  have hj : ¬ j = x := by simpa using h
  obtain ⟨c, hc⟩ : ∃ c, lv.getD j 0 = c := ⟨_, rfl⟩
  obtain ⟨d, hd⟩ : ∃ d, lv.getD (j + 1) 0 = d := ⟨_, rfl⟩
  simp only [h, ej, getD_nat lv j (by omega), getD_nat lv (j + 1) (by omega), hc, hd, nat_def, le_nat, word, nums, nats, zv, nv, bv, sv, VL, VB, BEq.rfl, V1, V2, V3, V4, V5, V6, V7, V8, V9, V10, V11, V12, V13, VE, Nat.reduceBEq, Nat.reduceAdd, Nat.reduceSub, Nat.reduceMul, Nat.reduceLeDiff, Nat.reduceLT, Nat.reduceEqDiff, Int.reduceBEq, Int.reduceBNe, Int.reduceLT, Int.reduceLE, Int.reduceAdd, Int.reduceSub, Int.reduceMul, kAgg, scD, List.all_cons, List.all_nil]
  refine ⟨⟨Int.natCast_nonneg j, by omega⟩, ⟨Int.natCast_nonneg _, by omega⟩, ?_⟩
  refine guardB.mk (fun h2 => ?_) (fun h2 => ?_)
  · have hst : j = x ∨ lv.getD (j + 1) 0 ≤ lv.getD j 0 := .inr (by rw [hc, hd]; simpa using h2)
    simp only [h2, wrap_nat (k := x) (by omega), word, nums, nats, zv, nv, bv, sv, VL, VB, BEq.rfl, V1, V2, V3, V4, V5, V6, V7, V8, V9, V10, V11, V12, V13, VE, Nat.reduceBEq, Nat.reduceAdd, Nat.reduceSub, Nat.reduceMul, Nat.reduceLeDiff, Nat.reduceLT, Nat.reduceEqDiff, Int.reduceBEq, Int.reduceBNe, Int.reduceLT, Int.reduceLE, Int.reduceAdd, Int.reduceSub, Int.reduceMul, kAgg, scD, List.all_cons, List.all_nil]
    have hm2 : m = j + 1 := by rw [hme, if_pos hst]
    subst hm2
    refine YieldVC.mk (k := k) rfl hget ?_ ?_
    · simp only [wrap_nat (k := k) (by omega), word, nums, nats, zv, nv, bv, sv, VL, VB, BEq.rfl, V1, V2, V3, V4, V5, V6, V7, V8, V9, V10, V11, V12, V13, VE, Nat.reduceBEq, Nat.reduceAdd, Nat.reduceSub, Nat.reduceMul, Nat.reduceLeDiff, Nat.reduceLT, Nat.reduceEqDiff, Int.reduceBEq, Int.reduceBNe, Int.reduceLT, Int.reduceLE, Int.reduceAdd, Int.reduceSub, Int.reduceMul, kAgg, scD, List.all_cons, List.all_nil]
      refine ⟨k + 1, rfl, Enter.id ?_, h1, by show ps.length - (k + 1) < ps.length - k; omega⟩
      simp only [yieldV, hm, word, nums, nats, zv, nv, bv, sv, VL, VB, BEq.rfl, V1, V2, V3, V4, V5, V6, V7, V8, V9, V10, V11, V12, V13, VE, Nat.reduceBEq, Nat.reduceAdd, Nat.reduceSub, Nat.reduceMul, Nat.reduceLeDiff, Nat.reduceLT, Nat.reduceEqDiff, Int.reduceBEq, Int.reduceBNe, Int.reduceLT, Int.reduceLE, Int.reduceAdd, Int.reduceSub, Int.reduceMul, kAgg, scD, List.all_cons, List.all_nil]
    · simp only [word, nums, nats, zv, nv, bv, sv, VL, VB, BEq.rfl, V1, V2, V3, V4, V5, V6, V7, V8, V9, V10, V11, V12, V13, VE, Nat.reduceBEq, Nat.reduceAdd, Nat.reduceSub, Nat.reduceMul, Nat.reduceLeDiff, Nat.reduceLT, Nat.reduceEqDiff, Int.reduceBEq, Int.reduceBNe, Int.reduceLT, Int.reduceLE, Int.reduceAdd, Int.reduceSub, Int.reduceMul, kAgg, scD, List.all_cons, List.all_nil]
  · have hst : ¬ (j = x ∨ lv.getD (j + 1) 0 ≤ lv.getD j 0) := fun h3 => h3.elim hj fun h3 => (by rw [hc, hd] at h3; simp [h3] at h2)
    rw [if_neg hst] at hme
    simp only [h2, ej, word, nums, nats, zv, nv, bv, sv, VL, VB, BEq.rfl, V1, V2, V3, V4, V5, V6, V7, V8, V9, V10, V11, V12, V13, VE, Nat.reduceBEq, Nat.reduceAdd, Nat.reduceSub, Nat.reduceMul, Nat.reduceLeDiff, Nat.reduceLT, Nat.reduceEqDiff, Int.reduceBEq, Int.reduceBNe, Int.reduceLT, Int.reduceLE, Int.reduceAdd, Int.reduceSub, Int.reduceMul, kAgg, scD, List.all_cons, List.all_nil]
    refine ⟨j, rfl, Enter.id ?_, ⟨by omega, by omega, hme⟩, Nat.lt_succ_self j⟩
    simp only [yieldV, word, nums, nats, zv, nv, bv, sv, VL, VB, BEq.rfl, V1, V2, V3, V4, V5, V6, V7, V8, V9, V10, V11, V12, V13, VE, Nat.reduceBEq, Nat.reduceAdd, Nat.reduceSub, Nat.reduceMul, Nat.reduceLeDiff, Nat.reduceLT, Nat.reduceEqDiff, Int.reduceBEq, Int.reduceBNe, Int.reduceLT, Int.reduceLE, Int.reduceAdd, Int.reduceSub, Int.reduceMul, kAgg, scD, List.all_cons, List.all_nil]
end Go.Cp
end

section
set_option linter.unusedVariables false
set_option linter.unusedSimpArgs false
set_option maxHeartbeats 4000000
set_option maxRecDepth 10000
namespace Go.Cp
open Go Go.Proofs Go.Vx

def pokB (lv : List Nat) (a i : Nat) : Bool := !decide (lv.getD i 0 = lv.getD (i - 1) 0) && (decide (lv.getD (i - 1) 0 < lv.getD i 0) == decide (i ≤ a))
def pokS (lv : List Nat) (s : Syl) : Bool := !decide (s.a = s.e) && (List.range s.e).all fun i => !decide (s.b < i) || pokB lv s.a i
theorem okSyl_pok {sc : List Snd} {p : Int} {w : List Snd} (hr : okR sc p = true) {s : Syl} (h1 : s.b ≤ s.a) (h2 : s.e ≤ w.length) (h3 : s.a ≠ s.e → s.c = s.a + 1) (h4 : s.a ≤ s.c) (h5 : s.c ≤ s.e) : okSyl sc p w s = pokS (lev sc w) s := by
  rw [okSyl, pokS]
  by_cases hne : s.a = s.e
  · rw [decide_eq_true hne]; rfl
  rw [decide_eq_false hne]
  have hc := h3 hne
  have hst : ∀ i, i < w.length → 0 < i → stepB sc p w i = decide ((lev sc w).getD (i - 1) 0 < (lev sc w).getD i 0) := by
    intro i hi hi0
    rw [stepB, sonN, sonN, if_pos hr, if_pos hr, lev_at hi, lev_at (by omega)]
  have hfa : ∀ i, i < w.length → 0 < i → fallsB sc p w i = decide ((lev sc w).getD i 0 < (lev sc w).getD (i - 1) 0) := by
    intro i hi hi0
    rw [fallsB, sonN, sonN, if_pos hr, if_pos hr, lev_at hi, lev_at (by omega)]
  congr 1
  rw [Bool.eq_iff_iff, Bool.and_eq_true, risesB, codaB, List.all_eq_true, List.all_eq_true, List.all_eq_true]
  constructor
  · rintro ⟨hx, hy⟩ i hi
    have hi : i < s.e := by simpa using hi
    by_cases hb : s.b < i
    · rw [decide_eq_true hb]
      by_cases ha : i ≤ s.a
      · have := hx i (by simp; omega)
        rw [decide_eq_true hb, hst i (by omega) (by omega)] at this
        have h : (lev sc w).getD (i - 1) 0 < (lev sc w).getD i 0 := by simpa using this
        rw [pokB, decide_eq_false (by omega), decide_eq_true h, decide_eq_true ha]; rfl
      · have := hy i (by simp; omega)
        rw [decide_eq_true (by omega), hfa i (by omega) (by omega)] at this
        have h : (lev sc w).getD i 0 < (lev sc w).getD (i - 1) 0 := by simpa using this
        rw [pokB, decide_eq_false (by omega), decide_eq_false (by omega), decide_eq_false ha]; rfl
    · rw [decide_eq_false hb]; rfl
  · intro hz
    constructor
    · intro i hi
      have hi : i < s.a + 1 := by simpa using hi
      by_cases hb : s.b < i
      · have := hz i (by simp; omega)
        rw [decide_eq_true hb, pokB, decide_eq_true (show i ≤ s.a by omega)] at this
        have h : (lev sc w).getD (i - 1) 0 < (lev sc w).getD i 0 := by
          simp only [Bool.not_true, Bool.false_or, Bool.and_eq_true, beq_iff_eq] at this
          simpa using this.2
        rw [decide_eq_true hb, hst i (by omega) (by omega), decide_eq_true h]; rfl
      · rw [decide_eq_false hb]; rfl
    · intro i hi
      have hi : i < s.e := by simpa using hi
      by_cases hb : s.c ≤ i
      · have := hz i (by simp; omega)
        rw [decide_eq_true (show s.b < i by omega), pokB, decide_eq_false (show ¬ i ≤ s.a by omega)] at this
        have h : (lev sc w).getD i 0 < (lev sc w).getD (i - 1) 0 := by
          simp only [Bool.not_true, Bool.false_or, Bool.and_eq_true, beq_iff_eq, decide_eq_false_iff_not, Bool.not_eq_true', decide_eq_true_eq] at this
          omega
        rw [decide_eq_true hb, hfa i (by omega) (by omega), decide_eq_true h]; rfl
      · rw [decide_eq_false hb]; rfl
theorem legal_pok {sc : List Snd} {p : Int} {w : List Snd} (hc : checkE sc p [w] = 0) : legalB sc p w = (splitL p (lev sc w)).all (pokS (lev sc w)) := by
  rw [legalB, decide_eq_true hc, Bool.true_and, splitS, if_pos hc]
  have hr := (checkE_zero hc).1
  rw [Bool.eq_iff_iff, List.all_eq_true, List.all_eq_true]
  refine ⟨fun h s hs => ?_, fun h s hs => ?_⟩ <;>
  · obtain ⟨h1, h2, h3, h4, h5⟩ := splitS_in (sc := sc) (p := p) (w := w) (s := s) (by rw [splitS, if_pos hc]; exact hs)
    have := okSyl_pok hr h1 h4 h5 h2 h3
    have h := h s hs
    first | (rw [this] at h; exact h) | (rw [← this] at h; exact h)
theorem Legal_ok (sc : List Snd) (p : Int) (w : List Snd) (hsc : AllIn sc) (hw : AllIn w) : Ok Try.prog E 27 [.ag (ruleD sc p), .c (word w)] (.tp [bv (legalB sc p w), zv (checkE sc p [w])]) := by
  refine ok_of_vcC (L := []) (rs := [.cell 4 4, .cell 5 26]) envOK mixed Try.func27 rfl (by kernel_rfl) rfl (by kernel_rfl) rfl fun hl => ?_
  simp only [Try.f27, word, nums, nats, zv, nv, bv, sv, VL, VB, BEq.rfl, V1, V2, V3, V4, V5, V6, V7, V8, V9, V10, V11, V12, V13, VE, Nat.reduceBEq, Nat.reduceAdd, Nat.reduceSub, Nat.reduceMul, Nat.reduceLeDiff, Nat.reduceLT, Nat.reduceEqDiff, Int.reduceBEq, Int.reduceBNe, Int.reduceLT, Int.reduceLE, Int.reduceAdd, Int.reduceSub, Int.reduceMul, kAgg, scD, List.all_cons, List.all_nil]
  have hck := check_ok sc p [w] hsc (allIn_one hw)
  simp only [wordsD, List.map_cons, List.map_nil] at hck
  refine CallX.mk hck rfl ?_
  by_cases hc : checkE sc p [w] = 0
  · rw [legal_pok hc]
    obtain ⟨hr, hwl⟩ := checkE_zero hc
    have hn : sc.length ≤ 12 := by
      simp only [okR, Bool.and_eq_true, decide_eq_true_eq] at hr
      exact hr.1
    have hlo := Ok.val (levels_ok sc p w hsc hw hn hwl)
    have hlv := lev_len sc w
    have hsi := fun s hs => splitL_in (p := p) (lv := lev sc w) (s := s) hs
    revert hlo hlv hsi
    generalize lev sc w = lv
    intro hlo hlv hsi
    simp only [hc, word, nums, nats, zv, nv, bv, sv, VL, VB, BEq.rfl, V1, V2, V3, V4, V5, V6, V7, V8, V9, V10, V11, V12, V13, VE, Nat.reduceBEq, Nat.reduceAdd, Nat.reduceSub, Nat.reduceMul, Nat.reduceLeDiff, Nat.reduceLT, Nat.reduceEqDiff, Int.reduceBEq, Int.reduceBNe, Int.reduceLT, Int.reduceLE, Int.reduceAdd, Int.reduceSub, Int.reduceMul, kAgg, scD, List.all_cons, List.all_nil]
    refine CallX.mk hlo rfl ?_
    simp only [word, nums, nats, zv, nv, bv, sv, VL, VB, BEq.rfl, V1, V2, V3, V4, V5, V6, V7, V8, V9, V10, V11, V12, V13, VE, Nat.reduceBEq, Nat.reduceAdd, Nat.reduceSub, Nat.reduceMul, Nat.reduceLeDiff, Nat.reduceLT, Nat.reduceEqDiff, Int.reduceBEq, Int.reduceBNe, Int.reduceLT, Int.reduceLE, Int.reduceAdd, Int.reduceSub, Int.reduceMul, kAgg, scD, List.all_cons, List.all_nil]
    refine CallX.mut (CallMVC.mk [] [(2001, 23), (2002, 3002)] (syllables_ok sc p lv) ?_ ?_)
    · simp only [word, nums, nats, zv, nv, bv, sv, VL, VB, BEq.rfl, V1, V2, V3, V4, V5, V6, V7, V8, V9, V10, V11, V12, V13, VE, Nat.reduceBEq, Nat.reduceAdd, Nat.reduceSub, Nat.reduceMul, Nat.reduceLeDiff, Nat.reduceLT, Nat.reduceEqDiff, Int.reduceBEq, Int.reduceBNe, Int.reduceLT, Int.reduceLE, Int.reduceAdd, Int.reduceSub, Int.reduceMul, kAgg, scD, List.all_cons, List.all_nil]
    simp only [word, nums, nats, zv, nv, bv, sv, VL, VB, BEq.rfl, V1, V2, V3, V4, V5, V6, V7, V8, V9, V10, V11, V12, V13, VE, Nat.reduceBEq, Nat.reduceAdd, Nat.reduceSub, Nat.reduceMul, Nat.reduceLeDiff, Nat.reduceLT, Nat.reduceEqDiff, Int.reduceBEq, Int.reduceBNe, Int.reduceLT, Int.reduceLE, Int.reduceAdd, Int.reduceSub, Int.reduceMul, kAgg, scD, List.all_cons, List.all_nil]
    refine RangeVC.mk (Y := Nat) [(2001, 23), (2002, 3002)] [] [] (syl_seq sc p lv (by omega)) (fun k y => y = k ∧ k ≤ (splitL p lv).length ∧ ((splitL p lv).take k).all (pokS lv) = true) (fun _ => ⟨[(4, .bp 4 0), (5, .bp 5 0), (7, .bp 7 0)], [(4, .cells [bv false]), (5, .cells [zv 0]), (7, .cells [.c (nats lv)])]⟩) rfl ?_ ?_ ⟨0, ?_, rfl, by omega, rfl⟩ ?_ ?_
    · simp only [word, nums, nats, zv, nv, bv, sv, VL, VB, BEq.rfl, V1, V2, V3, V4, V5, V6, V7, V8, V9, V10, V11, V12, V13, VE, Nat.reduceBEq, Nat.reduceAdd, Nat.reduceSub, Nat.reduceMul, Nat.reduceLeDiff, Nat.reduceLT, Nat.reduceEqDiff, Int.reduceBEq, Int.reduceBNe, Int.reduceLT, Int.reduceLE, Int.reduceAdd, Int.reduceSub, Int.reduceMul, kAgg, scD, List.all_cons, List.all_nil]
    · intro e he
      simp only [sylES, List.mem_map] at he
      obtain ⟨i, _, rfl⟩ := he
      rfl
    · simp only [word, nums, nats, zv, nv, bv, sv, VL, VB, BEq.rfl, V1, V2, V3, V4, V5, V6, V7, V8, V9, V10, V11, V12, V13, VE, Nat.reduceBEq, Nat.reduceAdd, Nat.reduceSub, Nat.reduceMul, Nat.reduceLeDiff, Nat.reduceLT, Nat.reduceEqDiff, Int.reduceBEq, Int.reduceBNe, Int.reduceLT, Int.reduceLE, Int.reduceAdd, Int.reduceSub, Int.reduceMul, kAgg, scD, List.all_cons, List.all_nil]
    · rintro k e y he ⟨rfl, hk, hpre⟩
      have hlen : (sylES p lv).length = (splitL p lv).length := by rw [sylES, List.length_map]
      have hk' : y < (splitL p lv).length := by
        have := (List.getElem?_eq_some_iff.1 he).1
        rwa [hlen] at this
      have hget : (sylES p lv)[y]? = some [.ag ((splitL p lv).getD y Syl.zero).enc] := by
        rw [sylES, getD_of Syl.zero _ y hk', List.getElem?_map, List.getElem?_eq_getElem hk']; rfl
      rw [hget] at he
      injection he with he
      subst he
      have hts := all_take_succ Syl.zero hk' (pokS lv)
      have hf := fun h => all_false_at (l := splitL p lv) Syl.zero hk' (p := pokS lv) h
      rw [hpre, Bool.true_and] at hts
      have hsi := hsi _ (getD_mem Syl.zero hk')
      obtain ⟨s, hs2⟩ : ∃ s, (splitL p lv).getD y Syl.zero = s := ⟨_, rfl⟩
      rw [hs2] at hts hf hsi
      have e0 : ((s.a : Int) == (s.e : Int)) = decide (s.a = s.e) := eq_nat _ _
      simp only [hs2, syl_def, e0, word, nums, nats, zv, nv, bv, sv, VL, VB, BEq.rfl, V1, V2, V3, V4, V5, V6, V7, V8, V9, V10, V11, V12, V13, VE, Nat.reduceBEq, Nat.reduceAdd, Nat.reduceSub, Nat.reduceMul, Nat.reduceLeDiff, Nat.reduceLT, Nat.reduceEqDiff, Int.reduceBEq, Int.reduceBNe, Int.reduceLT, Int.reduceLE, Int.reduceAdd, Int.reduceSub, Int.reduceMul, kAgg, scD, List.all_cons, List.all_nil]
      refine guardB.mk (fun h => ?_) (fun h => ?_)
      · have hff := hf (by rw [pokS, h]; rfl)
        simp only [h, hff, word, nums, nats, zv, nv, bv, sv, VL, VB, BEq.rfl, V1, V2, V3, V4, V5, V6, V7, V8, V9, V10, V11, V12, V13, VE, Nat.reduceBEq, Nat.reduceAdd, Nat.reduceSub, Nat.reduceMul, Nat.reduceLeDiff, Nat.reduceLT, Nat.reduceEqDiff, Int.reduceBEq, Int.reduceBNe, Int.reduceLT, Int.reduceLE, Int.reduceAdd, Int.reduceSub, Int.reduceMul, kAgg, scD, List.all_cons, List.all_nil]
      have hne : ¬ s.a = s.e := by simpa using h
      have hpk : pokS lv s = (List.range s.e).all fun i => !decide (s.b < i) || pokB lv s.a i := by rw [pokS, h]; rfl
      rw [hpk] at hts hf
      simp only [h, wrap_nat (k := s.b) (by omega), word, nums, nats, zv, nv, bv, sv, VL, VB, BEq.rfl, V1, V2, V3, V4, V5, V6, V7, V8, V9, V10, V11, V12, V13, VE, Nat.reduceBEq, Nat.reduceAdd, Nat.reduceSub, Nat.reduceMul, Nat.reduceLeDiff, Nat.reduceLT, Nat.reduceEqDiff, Int.reduceBEq, Int.reduceBNe, Int.reduceLT, Int.reduceLE, Int.reduceAdd, Int.reduceSub, Int.reduceMul, kAgg, scD, List.all_cons, List.all_nil]
      clear h
      refine LoopVC.mk (Y := Nat) (fun i => s.b < i ∧ i ≤ s.e ∧ (List.range i).all (fun i => !decide (s.b < i) || pokB lv s.a i) = true) (fun i => ⟨[(4, .bp 4 0), (5, .bp 5 0), (7, .bp 7 0), (8, .bp 8 0), (9, nv i)], [(4, .cells [bv false]), (5, .cells [zv 0]), (7, .cells [.c (nats lv)]), (8, .cells [nv s.b, nv s.a, nv s.c, nv s.e])]⟩) (fun i => s.e - i) ⟨s.b + 1, Enter.mk [] [] [] ?_, by omega, by omega, ?_⟩ ?_
      · simp only [word, nums, nats, zv, nv, bv, sv, VL, VB, BEq.rfl, V1, V2, V3, V4, V5, V6, V7, V8, V9, V10, V11, V12, V13, VE, Nat.reduceBEq, Nat.reduceAdd, Nat.reduceSub, Nat.reduceMul, Nat.reduceLeDiff, Nat.reduceLT, Nat.reduceEqDiff, Int.reduceBEq, Int.reduceBNe, Int.reduceLT, Int.reduceLE, Int.reduceAdd, Int.reduceSub, Int.reduceMul, kAgg, scD, List.all_cons, List.all_nil]
      · rw [List.all_eq_true]
        intro i hi
        have hi : i < s.b + 1 := by simpa using hi
        rw [decide_eq_false (by omega)]; rfl
      rintro i ⟨hi0, hi1, hprei⟩
      simp only [lt_nat, word, nums, nats, zv, nv, bv, sv, VL, VB, BEq.rfl, V1, V2, V3, V4, V5, V6, V7, V8, V9, V10, V11, V12, V13, VE, Nat.reduceBEq, Nat.reduceAdd, Nat.reduceSub, Nat.reduceMul, Nat.reduceLeDiff, Nat.reduceLT, Nat.reduceEqDiff, Int.reduceBEq, Int.reduceBNe, Int.reduceLT, Int.reduceLE, Int.reduceAdd, Int.reduceSub, Int.reduceMul, kAgg, scD, List.all_cons, List.all_nil]
      refine guardB.mk (fun h => ?_) (fun h => ?_)
      · have hi' : i < s.e := by simpa using h
        clear h
        have hsb : pokB lv s.a i = (!decide (lv.getD i 0 = lv.getD (i - 1) 0) && (decide (lv.getD (i - 1) 0 < lv.getD i 0) == decide (i ≤ s.a))) := rfl
        have hrs := all_range_succ (p := fun i => !decide (s.b < i) || pokB lv s.a i) (k := i)
        have hrf := fun h => all_range_false (p := fun i => !decide (s.b < i) || pokB lv s.a i) hi' h
        rw [hprei, Bool.true_and] at hrs
        simp only [decide_eq_true hi0, Bool.not_true, Bool.false_or] at hrs hrf
        obtain ⟨j, hj⟩ : ∃ j, i - 1 = j := ⟨_, rfl⟩
        rw [hj] at hsb
        have hwj : IntKind.i64.wrap ((i : Int) - 1) = (j : Int) := by rw [wrap_in (by omega) (by omega)]; omega
        obtain ⟨c, hc2⟩ : ∃ c, lv.getD i 0 = c := ⟨_, rfl⟩
        obtain ⟨d, hd⟩ : ∃ d, lv.getD j 0 = d := ⟨_, rfl⟩
        rw [hc2, hd] at hsb
        have e1 : ((c : Int) == (d : Int)) = decide (c = d) := eq_nat _ _
        simp only [hwj, getD_nat lv i (by omega), getD_nat lv j (by omega), hc2, hd, nat_def, lt_nat, le_nat, e1, word, nums, nats, zv, nv, bv, sv, VL, VB, BEq.rfl, V1, V2, V3, V4, V5, V6, V7, V8, V9, V10, V11, V12, V13, VE, Nat.reduceBEq, Nat.reduceAdd, Nat.reduceSub, Nat.reduceMul, Nat.reduceLeDiff, Nat.reduceLT, Nat.reduceEqDiff, Int.reduceBEq, Int.reduceBNe, Int.reduceLT, Int.reduceLE, Int.reduceAdd, Int.reduceSub, Int.reduceMul, kAgg, scD, List.all_cons, List.all_nil]
        refine ⟨⟨Int.natCast_nonneg i, by omega⟩, ⟨Int.natCast_nonneg j, by omega⟩, ⟨Int.natCast_nonneg i, by omega⟩, ⟨Int.natCast_nonneg j, by omega⟩, ?_⟩
        obtain ⟨u, hu⟩ : ∃ u, decide (d < c) = u := ⟨_, rfl⟩
        obtain ⟨v, hv⟩ : ∃ v, decide (i ≤ s.a) = v := ⟨_, rfl⟩
        rw [hu, hv] at hsb
        refine guardB.mk (fun h => ?_) (fun h => ?_)
        · have hff := hf (hrf (by rw [hsb, h]; rfl))
          simp only [h, hff, word, nums, nats, zv, nv, bv, sv, VL, VB, BEq.rfl, V1, V2, V3, V4, V5, V6, V7, V8, V9, V10, V11, V12, V13, VE, Nat.reduceBEq, Nat.reduceAdd, Nat.reduceSub, Nat.reduceMul, Nat.reduceLeDiff, Nat.reduceLT, Nat.reduceEqDiff, Int.reduceBEq, Int.reduceBNe, Int.reduceLT, Int.reduceLE, Int.reduceAdd, Int.reduceSub, Int.reduceMul, kAgg, scD, List.all_cons, List.all_nil]
        rw [h, Bool.not_false, Bool.true_and] at hsb
        simp only [h, hu, le_nat, hv, word, nums, nats, zv, nv, bv, sv, VL, VB, BEq.rfl, V1, V2, V3, V4, V5, V6, V7, V8, V9, V10, V11, V12, V13, VE, Nat.reduceBEq, Nat.reduceAdd, Nat.reduceSub, Nat.reduceMul, Nat.reduceLeDiff, Nat.reduceLT, Nat.reduceEqDiff, Int.reduceBEq, Int.reduceBNe, Int.reduceLT, Int.reduceLE, Int.reduceAdd, Int.reduceSub, Int.reduceMul, kAgg, scD, List.all_cons, List.all_nil]
        cases u <;> cases v
        · have hrs := hrs.trans hsb
          simp only [wrap_nat (k := i) (by omega), word, nums, nats, zv, nv, bv, sv, VL, VB, BEq.rfl, V1, V2, V3, V4, V5, V6, V7, V8, V9, V10, V11, V12, V13, VE, Nat.reduceBEq, Nat.reduceAdd, Nat.reduceSub, Nat.reduceMul, Nat.reduceLeDiff, Nat.reduceLT, Nat.reduceEqDiff, Int.reduceBEq, Int.reduceBNe, Int.reduceLT, Int.reduceLE, Int.reduceAdd, Int.reduceSub, Int.reduceMul, kAgg, scD, List.all_cons, List.all_nil]
          refine ⟨i + 1, Enter.mk [] [] [] ?_, ⟨by omega, by omega, hrs⟩, by show s.e - (i + 1) < s.e - i; omega⟩
          simp only [word, nums, nats, zv, nv, bv, sv, VL, VB, BEq.rfl, V1, V2, V3, V4, V5, V6, V7, V8, V9, V10, V11, V12, V13, VE, Nat.reduceBEq, Nat.reduceAdd, Nat.reduceSub, Nat.reduceMul, Nat.reduceLeDiff, Nat.reduceLT, Nat.reduceEqDiff, Int.reduceBEq, Int.reduceBNe, Int.reduceLT, Int.reduceLE, Int.reduceAdd, Int.reduceSub, Int.reduceMul, kAgg, scD, List.all_cons, List.all_nil]
        · have hff := hf (hrf hsb)
          simp only [hff, word, nums, nats, zv, nv, bv, sv, VL, VB, BEq.rfl, V1, V2, V3, V4, V5, V6, V7, V8, V9, V10, V11, V12, V13, VE, Nat.reduceBEq, Nat.reduceAdd, Nat.reduceSub, Nat.reduceMul, Nat.reduceLeDiff, Nat.reduceLT, Nat.reduceEqDiff, Int.reduceBEq, Int.reduceBNe, Int.reduceLT, Int.reduceLE, Int.reduceAdd, Int.reduceSub, Int.reduceMul, kAgg, scD, List.all_cons, List.all_nil]
        · have hff := hf (hrf hsb)
          simp only [hff, word, nums, nats, zv, nv, bv, sv, VL, VB, BEq.rfl, V1, V2, V3, V4, V5, V6, V7, V8, V9, V10, V11, V12, V13, VE, Nat.reduceBEq, Nat.reduceAdd, Nat.reduceSub, Nat.reduceMul, Nat.reduceLeDiff, Nat.reduceLT, Nat.reduceEqDiff, Int.reduceBEq, Int.reduceBNe, Int.reduceLT, Int.reduceLE, Int.reduceAdd, Int.reduceSub, Int.reduceMul, kAgg, scD, List.all_cons, List.all_nil]
        · have hrs := hrs.trans hsb
          simp only [wrap_nat (k := i) (by omega), word, nums, nats, zv, nv, bv, sv, VL, VB, BEq.rfl, V1, V2, V3, V4, V5, V6, V7, V8, V9, V10, V11, V12, V13, VE, Nat.reduceBEq, Nat.reduceAdd, Nat.reduceSub, Nat.reduceMul, Nat.reduceLeDiff, Nat.reduceLT, Nat.reduceEqDiff, Int.reduceBEq, Int.reduceBNe, Int.reduceLT, Int.reduceLE, Int.reduceAdd, Int.reduceSub, Int.reduceMul, kAgg, scD, List.all_cons, List.all_nil]
          refine ⟨i + 1, Enter.mk [] [] [] ?_, ⟨by omega, by omega, hrs⟩, by show s.e - (i + 1) < s.e - i; omega⟩
          simp only [word, nums, nats, zv, nv, bv, sv, VL, VB, BEq.rfl, V1, V2, V3, V4, V5, V6, V7, V8, V9, V10, V11, V12, V13, VE, Nat.reduceBEq, Nat.reduceAdd, Nat.reduceSub, Nat.reduceMul, Nat.reduceLeDiff, Nat.reduceLT, Nat.reduceEqDiff, Int.reduceBEq, Int.reduceBNe, Int.reduceLT, Int.reduceLE, Int.reduceAdd, Int.reduceSub, Int.reduceMul, kAgg, scD, List.all_cons, List.all_nil]
      · have hi' : i = s.e := by
          have : ¬ i < s.e := by simpa using h
          omega
        rw [hi'] at hprei
        rw [hprei] at hts
        simp only [word, nums, nats, zv, nv, bv, sv, VL, VB, BEq.rfl, V1, V2, V3, V4, V5, V6, V7, V8, V9, V10, V11, V12, V13, VE, Nat.reduceBEq, Nat.reduceAdd, Nat.reduceSub, Nat.reduceMul, Nat.reduceLeDiff, Nat.reduceLT, Nat.reduceEqDiff, Int.reduceBEq, Int.reduceBNe, Int.reduceLT, Int.reduceLE, Int.reduceAdd, Int.reduceSub, Int.reduceMul, kAgg, scD, List.all_cons, List.all_nil]
        refine ⟨y + 1, Enter.mk [] [] [] ?_, rfl, by omega, hts⟩
        simp only [word, nums, nats, zv, nv, bv, sv, VL, VB, BEq.rfl, V1, V2, V3, V4, V5, V6, V7, V8, V9, V10, V11, V12, V13, VE, Nat.reduceBEq, Nat.reduceAdd, Nat.reduceSub, Nat.reduceMul, Nat.reduceLeDiff, Nat.reduceLT, Nat.reduceEqDiff, Int.reduceBEq, Int.reduceBNe, Int.reduceLT, Int.reduceLE, Int.reduceAdd, Int.reduceSub, Int.reduceMul, kAgg, scD, List.all_cons, List.all_nil]
    · rintro y ⟨rfl, hk, hpre⟩
      have hlen : (sylES p lv).length = (splitL p lv).length := by rw [sylES, List.length_map]
      rw [hlen, List.take_length] at hpre
      simp only [hpre, word, nums, nats, zv, nv, bv, sv, VL, VB, BEq.rfl, V1, V2, V3, V4, V5, V6, V7, V8, V9, V10, V11, V12, V13, VE, Nat.reduceBEq, Nat.reduceAdd, Nat.reduceSub, Nat.reduceMul, Nat.reduceLeDiff, Nat.reduceLT, Nat.reduceEqDiff, Int.reduceBEq, Int.reduceBNe, Int.reduceLT, Int.reduceLE, Int.reduceAdd, Int.reduceSub, Int.reduceMul, kAgg, scD, List.all_cons, List.all_nil]
  · have h1 : (checkE sc p [w] != 0) = true := by simpa using hc
    simp only [h1, legalB, decide_eq_false hc, word, nums, nats, zv, nv, bv, sv, VL, VB, BEq.rfl, V1, V2, V3, V4, V5, V6, V7, V8, V9, V10, V11, V12, V13, VE, Nat.reduceBEq, Nat.reduceAdd, Nat.reduceSub, Nat.reduceMul, Nat.reduceLeDiff, Nat.reduceLT, Nat.reduceEqDiff, Int.reduceBEq, Int.reduceBNe, Int.reduceLT, Int.reduceLE, Int.reduceAdd, Int.reduceSub, Int.reduceMul, kAgg, scD, List.all_cons, List.all_nil]
end Go.Cp
end
