/-
  Sankoff: the reference: what a node may have, what is below it. Conditions: none.
  Sankoff: the reference's table. Conditions: none.
  Sankoff: the reference: the smallest cost, the root's states. Conditions: none.
  Sankoff: the first of the smallest; the numbers of ways as products over the children. Plain. Conditions: none.
  Sankoff: the reference: the first of the cheapest assignments. Conditions: none.
  Sankoff: the reference: how many cheapest assignments there are. Conditions: none.
-/
import Derived.Test.YtfalggfambgkeaaMH

section
set_option linter.unusedVariables false
set_option linter.unusedSimpArgs false
set_option maxHeartbeats 4000000
set_option maxRecDepth 10000
namespace Go.Cp
open Go Go.Proofs Go.Vx

theorem ini_val (l st : List Int) (ns v s : Nat) (hs : s < ns) (k : Nat) : ini l st ns k v s = if (List.range k).all (fun j => !decide ((l.getD j 0).toNat = v ∧ st.getD j 0 ≠ -1 ∧ st.getD j 0 ≠ (s : Int))) then 0 else -1 := by
  induction k with
  | zero => rfl
  | succ k ih =>
    rw [all_range_succ, ini, blk, ih]
    by_cases h : (l.getD k 0).toNat = v ∧ st.getD k 0 ≠ -1 ∧ st.getD k 0 ≠ (s : Int)
    · rw [if_pos ⟨h.1.symm, hs, h.2⟩, decide_eq_true h]; simp
    · rw [if_neg (fun e => h ⟨e.1.symm, e.2.2⟩), decide_eq_false h]; simp
theorem leaf_inj {t : List Node} {i j : Nat} (hi : i < (leavesOf t).length) (hj : j < (leavesOf t).length) (h : (leavesOf t).getD i 0 = (leavesOf t).getD j 0) : i = j := by
  have hn : (leavesOf t).Nodup := by
    rw [leavesOf, leavesTo]
    refine List.Pairwise.map _ (fun a b h => ?_) (List.Pairwise.filter _ List.nodup_range)
    intro e
    exact h (by exact_mod_cast e)
  simp only [List.getD, List.getElem?_eq_getElem hi, List.getElem?_eq_getElem hj, Option.getD_some] at h
  have hp := List.pairwise_iff_getElem.1 hn
  rcases Nat.lt_trichotomy i j with e | e | e
  · exact absurd h (hp i j hi hj e)
  · exact e
  · exact absurd h.symm (hp j i hj hi e)

theorem may_ok (t : List Node) (st : List Int) (v s ns : Nat) (hs : Small t) (ht : okTree t = true) (hl0 : st.length = (leavesOf t).length) (hsn : s < ns) :
    Ok Try.prog E 82 [.c (nodes t), .c (nums st), nv v, nv s] (bv (decide (ini (leavesOf t) st ns (leavesOf t).length v s = 0))) := by
  refine ok_of_vc (L := []) (ts := [8]) envOK mixed Try.func82 rfl (by kernel_rfl) rfl (by kernel_rfl) rfl fun hl => ?_
  have hv := ini_val (leavesOf t) st ns v s hsn (leavesOf t).length
  have hleaf := fun k => leaf_at (t := t) (k := k)
  have hinj := fun i j => leaf_inj (t := t) (i := i) (j := j)
  have hll := leaves_len t
  have h63 := (okTree_len ht).2
  simp only [Try.f82, nums, rowsS, nodes, zv, bv, sv, nv, VL, VB, BEq.rfl, V1, V2, V3, V4, V5, V6, V7, V8, V9, V10, V11, V12, VE, Nat.reduceBEq, Nat.reduceAdd, Nat.reduceSub, Nat.reduceMul, Nat.reduceLeDiff, Nat.reduceLT, Nat.reduceEqDiff, Int.reduceBEq, Int.reduceBNe, Int.reduceLT, Int.reduceLE, Int.reduceAdd, Int.reduceSub, Int.reduceMul, kAgg, scD, List.all_cons, List.all_nil]
  refine CallX.mk (rLeaves_ok t hs) rfl ?_
  simp only [leavesR_true ht, nums, rowsS, nodes, zv, bv, sv, nv, VL, VB, BEq.rfl, V1, V2, V3, V4, V5, V6, V7, V8, V9, V10, V11, V12, VE, Nat.reduceBEq, Nat.reduceAdd, Nat.reduceSub, Nat.reduceMul, Nat.reduceLeDiff, Nat.reduceLT, Nat.reduceEqDiff, Int.reduceBEq, Int.reduceBNe, Int.reduceLT, Int.reduceLE, Int.reduceAdd, Int.reduceSub, Int.reduceMul, kAgg, scD, List.all_cons, List.all_nil]
  obtain ⟨l, hle⟩ : ∃ l, leavesOf t = l := ⟨_, rfl⟩
  rw [hle] at hv hll
  simp only [hle] at hleaf hinj hl0
  obtain ⟨I, hI⟩ : ∃ I, ini l st ns l.length v s = I := ⟨_, rfl⟩
  rw [hI] at hv
  simp only [hle, hI]
  refine LoopVC.mk (Y := Nat) (fun k => k ≤ l.length ∧ ∀ j, j < k → (l.getD j 0).toNat ≠ v) (fun k => ⟨[(1, .c (nums st)), (2, nv v), (3, nv s), (9, .c (nums l)), (11, nv k)], []⟩) (fun k => l.length - k) ⟨0, Enter.id ?_, by omega, fun j hj => absurd hj (by omega)⟩ ?_
  · simp only [nums, rowsS, nodes, zv, bv, sv, nv, VL, VB, BEq.rfl, V1, V2, V3, V4, V5, V6, V7, V8, V9, V10, V11, V12, VE, Nat.reduceBEq, Nat.reduceAdd, Nat.reduceSub, Nat.reduceMul, Nat.reduceLeDiff, Nat.reduceLT, Nat.reduceEqDiff, Int.reduceBEq, Int.reduceBNe, Int.reduceLT, Int.reduceLE, Int.reduceAdd, Int.reduceSub, Int.reduceMul, kAgg, scD, List.all_cons, List.all_nil]
    rfl
  rintro k ⟨hk, hpre⟩
  simp only [lt_nat, nums, rowsS, nodes, zv, bv, sv, nv, VL, VB, BEq.rfl, V1, V2, V3, V4, V5, V6, V7, V8, V9, V10, V11, V12, VE, Nat.reduceBEq, Nat.reduceAdd, Nat.reduceSub, Nat.reduceMul, Nat.reduceLeDiff, Nat.reduceLT, Nat.reduceEqDiff, Int.reduceBEq, Int.reduceBNe, Int.reduceLT, Int.reduceLE, Int.reduceAdd, Int.reduceSub, Int.reduceMul, kAgg, scD, List.all_cons, List.all_nil]
  refine guardB.mk (fun h => ?_) (fun h => ?_)
  · have hk' : k < l.length := by simpa using h
    clear h
    obtain ⟨u, hu, hun⟩ := hleaf k hk'
    obtain ⟨x, hx⟩ : ∃ x, st.getD k 0 = x := ⟨_, rfl⟩
    have e0 : ((u : Int) == (v : Int)) = decide (u = v) := by rw [int_beq]; congr 1; exact propext ⟨fun h => by omega, fun h => by omega⟩
    simp only [getD_num l k hk', hu, getD_num st k (by omega), hx, num_def, e0, int_beq, nums, rowsS, nodes, zv, bv, sv, nv, VL, VB, BEq.rfl, V1, V2, V3, V4, V5, V6, V7, V8, V9, V10, V11, V12, VE, Nat.reduceBEq, Nat.reduceAdd, Nat.reduceSub, Nat.reduceMul, Nat.reduceLeDiff, Nat.reduceLT, Nat.reduceEqDiff, Int.reduceBEq, Int.reduceBNe, Int.reduceLT, Int.reduceLE, Int.reduceAdd, Int.reduceSub, Int.reduceMul, kAgg, scD, List.all_cons, List.all_nil]
    refine ⟨⟨Int.natCast_nonneg k, hk'⟩, ?_⟩
    refine guardB.mk (fun h => ?_) (fun h => ?_) <;> simp only [h, getD_num l k hk', hu, getD_num st k (by omega), hx, num_def, e0, int_beq, nums, rowsS, nodes, zv, bv, sv, nv, VL, VB, BEq.rfl, V1, V2, V3, V4, V5, V6, V7, V8, V9, V10, V11, V12, VE, Nat.reduceBEq, Nat.reduceAdd, Nat.reduceSub, Nat.reduceMul, Nat.reduceLeDiff, Nat.reduceLT, Nat.reduceEqDiff, Int.reduceBEq, Int.reduceBNe, Int.reduceLT, Int.reduceLE, Int.reduceAdd, Int.reduceSub, Int.reduceMul, kAgg, scD, List.all_cons, List.all_nil]
    · have h : u = v := by simpa using h
      have hval : (I = 0) ↔ (x = -1 ∨ x = (s : Int)) := by
        rw [hv]
        constructor
        · intro e
          by_cases hc : (List.range l.length).all (fun j => !decide ((l.getD j 0).toNat = v ∧ st.getD j 0 ≠ -1 ∧ st.getD j 0 ≠ (s : Int))) = true
          · rw [List.all_eq_true] at hc
            have := hc k (by simpa using hk')
            rw [hu, hx] at this
            simp only [Int.toNat_natCast, h, true_and, Bool.not_eq_true', decide_eq_false_iff_not] at this
            by_cases hx1 : x = -1
            · exact .inl hx1
            · exact .inr (Decidable.byContradiction fun e => this ⟨hx1, e⟩)
          · rw [if_neg hc] at e; omega
        · intro e
          rw [if_pos]
          rw [List.all_eq_true]
          intro j hj
          have hj : j < l.length := by simpa using hj
          simp only [Bool.not_eq_true', decide_eq_false_iff_not]
          rintro ⟨a, b, c⟩
          obtain ⟨u', hu', _⟩ := hleaf j hj
          rw [hu'] at a
          simp only [Int.toNat_natCast] at a
          have : j = k := hinj j k hj hk' (by rw [hu', hu, a, h])
          subst this
          rw [hx] at b c
          exact e.elim b c
      refine ⟨⟨Int.natCast_nonneg k, by omega⟩, ?_⟩
      refine guardB.mk (fun h1 => ?_) (fun h1 => ?_) <;> simp only [h1, getD_num l k hk', hu, getD_num st k (by omega), hx, num_def, e0, int_beq, nums, rowsS, nodes, zv, bv, sv, nv, VL, VB, BEq.rfl, V1, V2, V3, V4, V5, V6, V7, V8, V9, V10, V11, V12, VE, Nat.reduceBEq, Nat.reduceAdd, Nat.reduceSub, Nat.reduceMul, Nat.reduceLeDiff, Nat.reduceLT, Nat.reduceEqDiff, Int.reduceBEq, Int.reduceBNe, Int.reduceLT, Int.reduceLE, Int.reduceAdd, Int.reduceSub, Int.reduceMul, kAgg, scD, List.all_cons, List.all_nil]
      · have h1 : x = -1 := by simpa using h1
        simp only [decide_eq_true (hval.2 (.inl h1)), nums, rowsS, nodes, zv, bv, sv, nv, VL, VB, BEq.rfl, V1, V2, V3, V4, V5, V6, V7, V8, V9, V10, V11, V12, VE, Nat.reduceBEq, Nat.reduceAdd, Nat.reduceSub, Nat.reduceMul, Nat.reduceLeDiff, Nat.reduceLT, Nat.reduceEqDiff, Int.reduceBEq, Int.reduceBNe, Int.reduceLT, Int.reduceLE, Int.reduceAdd, Int.reduceSub, Int.reduceMul, kAgg, scD, List.all_cons, List.all_nil]
      · have h1 : x ≠ -1 := by simpa using h1
        have e1 : decide (I = 0) = decide (x = (s : Int)) := by
          congr 1
          exact propext ⟨fun e => (hval.1 e).resolve_left h1, fun e => hval.2 (.inr e)⟩
        simp only [e1, nums, rowsS, nodes, zv, bv, sv, nv, VL, VB, BEq.rfl, V1, V2, V3, V4, V5, V6, V7, V8, V9, V10, V11, V12, VE, Nat.reduceBEq, Nat.reduceAdd, Nat.reduceSub, Nat.reduceMul, Nat.reduceLeDiff, Nat.reduceLT, Nat.reduceEqDiff, Int.reduceBEq, Int.reduceBNe, Int.reduceLT, Int.reduceLE, Int.reduceAdd, Int.reduceSub, Int.reduceMul, kAgg, scD, List.all_cons, List.all_nil]
        exact ⟨Int.natCast_nonneg k, by omega⟩
    · have h : u ≠ v := by simpa using h
      simp only [wrap_nat (k := k) (by omega), nums, rowsS, nodes, zv, bv, sv, nv, VL, VB, BEq.rfl, V1, V2, V3, V4, V5, V6, V7, V8, V9, V10, V11, V12, VE, Nat.reduceBEq, Nat.reduceAdd, Nat.reduceSub, Nat.reduceMul, Nat.reduceLeDiff, Nat.reduceLT, Nat.reduceEqDiff, Int.reduceBEq, Int.reduceBNe, Int.reduceLT, Int.reduceLE, Int.reduceAdd, Int.reduceSub, Int.reduceMul, kAgg, scD, List.all_cons, List.all_nil]
      refine ⟨k + 1, Enter.id ?_, ⟨by omega, fun j hj => ?_⟩, by show l.length - (k + 1) < l.length - k; omega⟩
      · simp only [nums, rowsS, nodes, zv, bv, sv, nv, VL, VB, BEq.rfl, V1, V2, V3, V4, V5, V6, V7, V8, V9, V10, V11, V12, VE, Nat.reduceBEq, Nat.reduceAdd, Nat.reduceSub, Nat.reduceMul, Nat.reduceLeDiff, Nat.reduceLT, Nat.reduceEqDiff, Int.reduceBEq, Int.reduceBNe, Int.reduceLT, Int.reduceLE, Int.reduceAdd, Int.reduceSub, Int.reduceMul, kAgg, scD, List.all_cons, List.all_nil]
      · rcases Nat.lt_succ_iff_lt_or_eq.1 hj with h' | h'
        · exact hpre j h'
        · rw [h', hu]; simpa using h
  · have hk' : k = l.length := by
      have : ¬ k < l.length := by simpa using h
      omega
    subst hk'
    have hall : (List.range l.length).all (fun j => !decide ((l.getD j 0).toNat = v ∧ st.getD j 0 ≠ -1 ∧ st.getD j 0 ≠ (s : Int))) = true := by
      rw [List.all_eq_true]
      intro j hj
      simp only [Bool.not_eq_true', decide_eq_false_iff_not]
      rintro ⟨a, _⟩
      exact hpre j (by simpa using hj) a
    rw [if_pos hall] at hv
    simp only [decide_eq_true hv, nums, rowsS, nodes, zv, bv, sv, nv, VL, VB, BEq.rfl, V1, V2, V3, V4, V5, V6, V7, V8, V9, V10, V11, V12, VE, Nat.reduceBEq, Nat.reduceAdd, Nat.reduceSub, Nat.reduceMul, Nat.reduceLeDiff, Nat.reduceLT, Nat.reduceEqDiff, Int.reduceBEq, Int.reduceBNe, Int.reduceLT, Int.reduceLE, Int.reduceAdd, Int.reduceSub, Int.reduceMul, kAgg, scD, List.all_cons, List.all_nil]

theorem under_ok (m : List (List Int)) (c : List Int) (s : Nat) (G : Nat → Int) (hm : Mat m) (hs : s < m.length) (hc : m.length ≤ c.length) (hg : ∀ b, b < m.length → c.getD b 0 = G b ∧ -1 ≤ G b ∧ G b ≤ 4611686018427387904) :
    Ok Try.prog E 67 [.c (rowsS m), nv s, .c (nums c)] (zv (bestTo (fun b => if cellAt m s b = -1 ∨ G b = -1 then -1 else cellAt m s b + G b) m.length).1) := by
  refine ok_of_vc (L := []) (ts := [6]) envOK mixed Try.func67 rfl (by kernel_rfl) rfl (by kernel_rfl) rfl fun hl => ?_
  obtain ⟨m0, m12, mr, mx⟩ := hm
  obtain ⟨C, hC⟩ : ∃ C : Nat → Int, C = fun b => if cellAt m s b = -1 ∨ G b = -1 then -1 else cellAt m s b + G b := ⟨_, rfl⟩
  rw [← hC]
  simp only [Try.f67, nums, rowsS, nodes, zv, bv, sv, nv, VL, VB, BEq.rfl, V1, V2, V3, V4, V5, V6, V7, V8, V9, V10, V11, V12, VE, Nat.reduceBEq, Nat.reduceAdd, Nat.reduceSub, Nat.reduceMul, Nat.reduceLeDiff, Nat.reduceLT, Nat.reduceEqDiff, Int.reduceBEq, Int.reduceBNe, Int.reduceLT, Int.reduceLE, Int.reduceAdd, Int.reduceSub, Int.reduceMul, kAgg, scD, List.all_cons, List.all_nil]
  refine LoopVC.mk (Y := Nat) (fun k => k ≤ m.length) (fun k => ⟨[(0, .c (rowsS m)), (1, nv s), (2, .c (nums c)), (7, zv (bestTo C k).1), (8, nv k)], []⟩) (fun k => m.length - k) ⟨0, Enter.id ?_, by omega⟩ ?_
  · simp only [bestTo, nums, rowsS, nodes, zv, bv, sv, nv, VL, VB, BEq.rfl, V1, V2, V3, V4, V5, V6, V7, V8, V9, V10, V11, V12, VE, Nat.reduceBEq, Nat.reduceAdd, Nat.reduceSub, Nat.reduceMul, Nat.reduceLeDiff, Nat.reduceLT, Nat.reduceEqDiff, Int.reduceBEq, Int.reduceBNe, Int.reduceLT, Int.reduceLE, Int.reduceAdd, Int.reduceSub, Int.reduceMul, kAgg, scD, List.all_cons, List.all_nil]
    rfl
  intro k hk
  simp only [lt_nat, nums, rowsS, nodes, zv, bv, sv, nv, VL, VB, BEq.rfl, V1, V2, V3, V4, V5, V6, V7, V8, V9, V10, V11, V12, VE, Nat.reduceBEq, Nat.reduceAdd, Nat.reduceSub, Nat.reduceMul, Nat.reduceLeDiff, Nat.reduceLT, Nat.reduceEqDiff, Int.reduceBEq, Int.reduceBNe, Int.reduceLT, Int.reduceLE, Int.reduceAdd, Int.reduceSub, Int.reduceMul, kAgg, scD, List.all_cons, List.all_nil]
  refine guardB.mk (fun h => ?_) (fun h => ?_)
  · have hk' : k < m.length := by simpa using h
    clear h
    have hrow := mr s hs
    have hxb := mx s k
    have hcell : (m.getD s []).getD k 0 = cellAt m s k := rfl
    obtain ⟨hy, hyb⟩ := hg k hk'
    have hsucc := bestTo_succ C k
    have hCk : C k = if cellAt m s k = -1 ∨ G k = -1 then -1 else cellAt m s k + G k := by rw [hC]
    obtain ⟨x, hx⟩ : ∃ x, cellAt m s k = x := ⟨_, rfl⟩
    obtain ⟨y, hyy⟩ : ∃ y, G k = y := ⟨_, rfl⟩
    obtain ⟨B, hB⟩ : ∃ B, bestTo C k = B := ⟨_, rfl⟩
    obtain ⟨l, f⟩ := B
    rw [hx] at hxb hcell hCk
    rw [hyy] at hy hyb hCk
    rw [hB] at hsucc
    simp only at hsucc
    have hlb : l = -1 ∨ 0 ≤ l := by
      have : (bestTo C k).1 = -1 ∨ 0 ≤ (bestTo C k).1 := by
        have := bestTo_bd (c := C) (B := 9000000000000000000) (by omega) k (fun b hb => by
          have h1 := mx s b
          have h2 := (hg b (by omega)).2
          rw [hC]; simp only; split <;> omega)
        omega
      rw [hB] at this; exact this
    have hw : IntKind.i64.wrap (x + y) = x + y := wrap_in (by omega) (by omega)
    have o1 : 0 ≤ (s : Int) ∧ s < m.length := ⟨Int.natCast_nonneg s, hs⟩
    have o2 : 0 ≤ (k : Int) ∧ k < (m.getD s []).length := ⟨Int.natCast_nonneg k, by omega⟩
    have o3 : 0 ≤ (k : Int) ∧ k < c.length := ⟨Int.natCast_nonneg k, by omega⟩
    simp only [hB, getD_rowS m s hs, rowS_def, getD_num (m.getD s []) k (by omega), hcell, getD_num c k (by omega), hy, num_def, nums, rowsS, nodes, zv, bv, sv, nv, VL, VB, BEq.rfl, V1, V2, V3, V4, V5, V6, V7, V8, V9, V10, V11, V12, VE, Nat.reduceBEq, Nat.reduceAdd, Nat.reduceSub, Nat.reduceMul, Nat.reduceLeDiff, Nat.reduceLT, Nat.reduceEqDiff, Int.reduceBEq, Int.reduceBNe, Int.reduceLT, Int.reduceLE, Int.reduceAdd, Int.reduceSub, Int.reduceMul, kAgg, scD, List.all_cons, List.all_nil]
    refine ⟨o1, o2, ?_⟩
    refine guardB.mk (fun h => ?_) (fun h => ?_) <;> simp only [h, hB, getD_rowS m s hs, rowS_def, getD_num (m.getD s []) k (by omega), hcell, getD_num c k (by omega), hy, num_def, nums, rowsS, nodes, zv, bv, sv, nv, VL, VB, BEq.rfl, V1, V2, V3, V4, V5, V6, V7, V8, V9, V10, V11, V12, VE, Nat.reduceBEq, Nat.reduceAdd, Nat.reduceSub, Nat.reduceMul, Nat.reduceLeDiff, Nat.reduceLT, Nat.reduceEqDiff, Int.reduceBEq, Int.reduceBNe, Int.reduceLT, Int.reduceLE, Int.reduceAdd, Int.reduceSub, Int.reduceMul, kAgg, scD, List.all_cons, List.all_nil]
    · have h1 : 0 ≤ x := by simpa using h
      clear h
      refine ⟨o3, ?_⟩
      refine guardB.mk (fun h => ?_) (fun h => ?_) <;> simp only [h, hB, getD_rowS m s hs, rowS_def, getD_num (m.getD s []) k (by omega), hcell, getD_num c k (by omega), hy, num_def, nums, rowsS, nodes, zv, bv, sv, nv, VL, VB, BEq.rfl, V1, V2, V3, V4, V5, V6, V7, V8, V9, V10, V11, V12, VE, Nat.reduceBEq, Nat.reduceAdd, Nat.reduceSub, Nat.reduceMul, Nat.reduceLeDiff, Nat.reduceLT, Nat.reduceEqDiff, Int.reduceBEq, Int.reduceBNe, Int.reduceLT, Int.reduceLE, Int.reduceAdd, Int.reduceSub, Int.reduceMul, kAgg, scD, List.all_cons, List.all_nil]
      · have h2 : 0 ≤ y := by simpa using h
        clear h
        refine guardB.mk (fun h => ?_) (fun h => ?_) <;> simp only [h, hB, getD_rowS m s hs, rowS_def, getD_num (m.getD s []) k (by omega), hcell, getD_num c k (by omega), hy, num_def, nums, rowsS, nodes, zv, bv, sv, nv, VL, VB, BEq.rfl, V1, V2, V3, V4, V5, V6, V7, V8, V9, V10, V11, V12, VE, Nat.reduceBEq, Nat.reduceAdd, Nat.reduceSub, Nat.reduceMul, Nat.reduceLeDiff, Nat.reduceLT, Nat.reduceEqDiff, Int.reduceBEq, Int.reduceBNe, Int.reduceLT, Int.reduceLE, Int.reduceAdd, Int.reduceSub, Int.reduceMul, kAgg, scD, List.all_cons, List.all_nil]
        · have h3 : l < 0 := by simpa using h
          have hC2 : C k = x + y := by rw [hCk, if_neg (by omega)]
          rw [if_pos (by rw [hC2]; exact ⟨by omega, .inl (by omega)⟩), hC2] at hsucc
          refine ⟨o1, o2, o3, ?_⟩
          simp only [hw, wrap_nat (k := k) (by omega), nums, rowsS, nodes, zv, bv, sv, nv, VL, VB, BEq.rfl, V1, V2, V3, V4, V5, V6, V7, V8, V9, V10, V11, V12, VE, Nat.reduceBEq, Nat.reduceAdd, Nat.reduceSub, Nat.reduceMul, Nat.reduceLeDiff, Nat.reduceLT, Nat.reduceEqDiff, Int.reduceBEq, Int.reduceBNe, Int.reduceLT, Int.reduceLE, Int.reduceAdd, Int.reduceSub, Int.reduceMul, kAgg, scD, List.all_cons, List.all_nil]
          refine ⟨k + 1, Enter.id ?_, by omega, by show m.length - (k + 1) < m.length - k; omega⟩
          simp only [hsucc, nums, rowsS, nodes, zv, bv, sv, nv, VL, VB, BEq.rfl, V1, V2, V3, V4, V5, V6, V7, V8, V9, V10, V11, V12, VE, Nat.reduceBEq, Nat.reduceAdd, Nat.reduceSub, Nat.reduceMul, Nat.reduceLeDiff, Nat.reduceLT, Nat.reduceEqDiff, Int.reduceBEq, Int.reduceBNe, Int.reduceLT, Int.reduceLE, Int.reduceAdd, Int.reduceSub, Int.reduceMul, kAgg, scD, List.all_cons, List.all_nil]
        · have h3 : ¬ l < 0 := by simpa using h
          clear h
          refine ⟨o1, o2, o3, ?_⟩
          simp only [hw, nums, rowsS, nodes, zv, bv, sv, nv, VL, VB, BEq.rfl, V1, V2, V3, V4, V5, V6, V7, V8, V9, V10, V11, V12, VE, Nat.reduceBEq, Nat.reduceAdd, Nat.reduceSub, Nat.reduceMul, Nat.reduceLeDiff, Nat.reduceLT, Nat.reduceEqDiff, Int.reduceBEq, Int.reduceBNe, Int.reduceLT, Int.reduceLE, Int.reduceAdd, Int.reduceSub, Int.reduceMul, kAgg, scD, List.all_cons, List.all_nil]
          refine guardB.mk (fun h => ?_) (fun h => ?_) <;> simp only [h, hB, getD_rowS m s hs, rowS_def, getD_num (m.getD s []) k (by omega), hcell, getD_num c k (by omega), hy, num_def, nums, rowsS, nodes, zv, bv, sv, nv, VL, VB, BEq.rfl, V1, V2, V3, V4, V5, V6, V7, V8, V9, V10, V11, V12, VE, Nat.reduceBEq, Nat.reduceAdd, Nat.reduceSub, Nat.reduceMul, Nat.reduceLeDiff, Nat.reduceLT, Nat.reduceEqDiff, Int.reduceBEq, Int.reduceBNe, Int.reduceLT, Int.reduceLE, Int.reduceAdd, Int.reduceSub, Int.reduceMul, kAgg, scD, List.all_cons, List.all_nil]
          · have h4 : x + y < l := by simpa using h
            have hC2 : C k = x + y := by rw [hCk, if_neg (by omega)]
            rw [if_pos (by rw [hC2]; exact ⟨by omega, .inr h4⟩), hC2] at hsucc
            refine ⟨o1, o2, o3, ?_⟩
            simp only [hw, wrap_nat (k := k) (by omega), nums, rowsS, nodes, zv, bv, sv, nv, VL, VB, BEq.rfl, V1, V2, V3, V4, V5, V6, V7, V8, V9, V10, V11, V12, VE, Nat.reduceBEq, Nat.reduceAdd, Nat.reduceSub, Nat.reduceMul, Nat.reduceLeDiff, Nat.reduceLT, Nat.reduceEqDiff, Int.reduceBEq, Int.reduceBNe, Int.reduceLT, Int.reduceLE, Int.reduceAdd, Int.reduceSub, Int.reduceMul, kAgg, scD, List.all_cons, List.all_nil]
            refine ⟨k + 1, Enter.id ?_, by omega, by show m.length - (k + 1) < m.length - k; omega⟩
            simp only [hsucc, nums, rowsS, nodes, zv, bv, sv, nv, VL, VB, BEq.rfl, V1, V2, V3, V4, V5, V6, V7, V8, V9, V10, V11, V12, VE, Nat.reduceBEq, Nat.reduceAdd, Nat.reduceSub, Nat.reduceMul, Nat.reduceLeDiff, Nat.reduceLT, Nat.reduceEqDiff, Int.reduceBEq, Int.reduceBNe, Int.reduceLT, Int.reduceLE, Int.reduceAdd, Int.reduceSub, Int.reduceMul, kAgg, scD, List.all_cons, List.all_nil]
          · have h4 : ¬ x + y < l := by simpa using h
            rw [if_neg (by rintro ⟨_, e⟩; rw [hCk, if_neg (by omega)] at e; omega)] at hsucc
            simp only [wrap_nat (k := k) (by omega), nums, rowsS, nodes, zv, bv, sv, nv, VL, VB, BEq.rfl, V1, V2, V3, V4, V5, V6, V7, V8, V9, V10, V11, V12, VE, Nat.reduceBEq, Nat.reduceAdd, Nat.reduceSub, Nat.reduceMul, Nat.reduceLeDiff, Nat.reduceLT, Nat.reduceEqDiff, Int.reduceBEq, Int.reduceBNe, Int.reduceLT, Int.reduceLE, Int.reduceAdd, Int.reduceSub, Int.reduceMul, kAgg, scD, List.all_cons, List.all_nil]
            refine ⟨k + 1, Enter.id ?_, by omega, by show m.length - (k + 1) < m.length - k; omega⟩
            simp only [hsucc, nums, rowsS, nodes, zv, bv, sv, nv, VL, VB, BEq.rfl, V1, V2, V3, V4, V5, V6, V7, V8, V9, V10, V11, V12, VE, Nat.reduceBEq, Nat.reduceAdd, Nat.reduceSub, Nat.reduceMul, Nat.reduceLeDiff, Nat.reduceLT, Nat.reduceEqDiff, Int.reduceBEq, Int.reduceBNe, Int.reduceLT, Int.reduceLE, Int.reduceAdd, Int.reduceSub, Int.reduceMul, kAgg, scD, List.all_cons, List.all_nil]
      · have h2 : ¬ 0 ≤ y := by simpa using h
        rw [if_neg (by rintro ⟨e, _⟩; exact e (by rw [hCk, if_pos (by omega)]))] at hsucc
        simp only [wrap_nat (k := k) (by omega), nums, rowsS, nodes, zv, bv, sv, nv, VL, VB, BEq.rfl, V1, V2, V3, V4, V5, V6, V7, V8, V9, V10, V11, V12, VE, Nat.reduceBEq, Nat.reduceAdd, Nat.reduceSub, Nat.reduceMul, Nat.reduceLeDiff, Nat.reduceLT, Nat.reduceEqDiff, Int.reduceBEq, Int.reduceBNe, Int.reduceLT, Int.reduceLE, Int.reduceAdd, Int.reduceSub, Int.reduceMul, kAgg, scD, List.all_cons, List.all_nil]
        refine ⟨k + 1, Enter.id ?_, by omega, by show m.length - (k + 1) < m.length - k; omega⟩
        simp only [hsucc, nums, rowsS, nodes, zv, bv, sv, nv, VL, VB, BEq.rfl, V1, V2, V3, V4, V5, V6, V7, V8, V9, V10, V11, V12, VE, Nat.reduceBEq, Nat.reduceAdd, Nat.reduceSub, Nat.reduceMul, Nat.reduceLeDiff, Nat.reduceLT, Nat.reduceEqDiff, Int.reduceBEq, Int.reduceBNe, Int.reduceLT, Int.reduceLE, Int.reduceAdd, Int.reduceSub, Int.reduceMul, kAgg, scD, List.all_cons, List.all_nil]
    · have h1 : ¬ 0 ≤ x := by simpa using h
      rw [if_neg (by rintro ⟨e, _⟩; exact e (by rw [hCk, if_pos (by omega)]))] at hsucc
      simp only [wrap_nat (k := k) (by omega), nums, rowsS, nodes, zv, bv, sv, nv, VL, VB, BEq.rfl, V1, V2, V3, V4, V5, V6, V7, V8, V9, V10, V11, V12, VE, Nat.reduceBEq, Nat.reduceAdd, Nat.reduceSub, Nat.reduceMul, Nat.reduceLeDiff, Nat.reduceLT, Nat.reduceEqDiff, Int.reduceBEq, Int.reduceBNe, Int.reduceLT, Int.reduceLE, Int.reduceAdd, Int.reduceSub, Int.reduceMul, kAgg, scD, List.all_cons, List.all_nil]
      refine ⟨k + 1, Enter.id ?_, by omega, by show m.length - (k + 1) < m.length - k; omega⟩
      simp only [hsucc, nums, rowsS, nodes, zv, bv, sv, nv, VL, VB, BEq.rfl, V1, V2, V3, V4, V5, V6, V7, V8, V9, V10, V11, V12, VE, Nat.reduceBEq, Nat.reduceAdd, Nat.reduceSub, Nat.reduceMul, Nat.reduceLeDiff, Nat.reduceLT, Nat.reduceEqDiff, Int.reduceBEq, Int.reduceBNe, Int.reduceLT, Int.reduceLE, Int.reduceAdd, Int.reduceSub, Int.reduceMul, kAgg, scD, List.all_cons, List.all_nil]
  · have hk' : k = m.length := by
      have : ¬ k < m.length := by simpa using h
      omega
    subst hk'
    simp only [nums, rowsS, nodes, zv, bv, sv, nv, VL, VB, BEq.rfl, V1, V2, V3, V4, V5, V6, V7, V8, V9, V10, V11, V12, VE, Nat.reduceBEq, Nat.reduceAdd, Nat.reduceSub, Nat.reduceMul, Nat.reduceLeDiff, Nat.reduceLT, Nat.reduceEqDiff, Int.reduceBEq, Int.reduceBNe, Int.reduceLT, Int.reduceLE, Int.reduceAdd, Int.reduceSub, Int.reduceMul, kAgg, scD, List.all_cons, List.all_nil]

end Go.Cp
end

section
set_option linter.unusedVariables false
set_option linter.unusedSimpArgs false
set_option maxHeartbeats 4000000
set_option maxRecDepth 10000
namespace Go.Cp
open Go Go.Proofs Go.Vx

/-- the rows from c on are there, of row c - 1 the first s cells -/
def nestT (n ns : Nat) (F : Fn2) (c s : Nat) : List (List Int) := (List.range n).map fun u => if u + 1 < c then [] else if u + 1 = c then (List.range s).map (F u) else (List.range ns).map (F u)
def tabS (n ns : Nat) (F : Fn2) : List (List Int) := (List.range n).map fun u => (List.range ns).map (F u)
theorem nestT_len (n ns : Nat) (F : Fn2) (c s : Nat) : (nestT n ns F c s).length = n := by simp [nestT]
theorem nestT_at {n ns : Nat} {F : Fn2} {v s : Nat} (hv : v < n) : (nestT n ns F (v + 1) s).getD v [] = (List.range s).map (F v) := by
  simp [nestT, List.getD, hv]
theorem nestT_up {n ns : Nat} {F : Fn2} {v s w : Nat} (hv : v < w) (hw : w < n) : (nestT n ns F (v + 1) s).getD w [] = (List.range ns).map (F w) := by
  simp only [nestT, List.getD, List.getElem?_map, List.getElem?_range hw, Option.map_some, Option.getD_some]
  rw [if_neg (by omega), if_neg (by omega)]
theorem nestT_set {n ns : Nat} {F : Fn2} {v s : Nat} (hv : v < n) : (nestT n ns F (v + 1) s).set v ((List.range s).map (F v) ++ [F v s]) = nestT n ns F (v + 1) (s + 1) := by
  refine List.ext_getElem (by simp [nestT]) fun i h1 h2 => ?_
  simp only [nestT, List.getElem_set, List.getElem_map, List.getElem_range]
  by_cases hi : v = i
  · subst hi
    rw [if_pos rfl, if_neg (by omega), if_pos rfl, List.range_succ, List.map_append]; rfl
  · rw [if_neg hi]
    by_cases h : i + 1 < v + 1
    · rw [if_pos h, if_pos h]
    · rw [if_neg h, if_neg h, if_neg (by omega), if_neg (by omega)]
theorem nestT_next {n ns : Nat} {F : Fn2} {v : Nat} : nestT n ns F (v + 1) ns = nestT n ns F v 0 := by
  refine List.map_congr_left fun u _ => ?_
  by_cases h : u + 1 < v
  · rw [if_pos (by omega), if_pos h]
  · by_cases h2 : u + 1 = v
    · rw [if_pos (by omega), if_neg h, if_pos h2]; simp
    · by_cases h3 : u = v
      · rw [if_neg (by omega), if_pos (by omega), if_neg h, if_neg h2]
      · rw [if_neg (by omega), if_neg (by omega), if_neg h, if_neg h2]
theorem nestT_zero {n ns : Nat} {F : Fn2} : nestT n ns F 0 0 = tabS n ns F := by
  refine List.map_congr_left fun u _ => ?_
  rw [if_neg (by omega), if_neg (by omega)]
theorem nestT_all {n ns : Nat} {F : Fn2} : nestT n ns F n 0 = List.replicate n [] := by
  refine List.ext_getElem (by simp [nestT]) fun i h1 h2 => ?_
  have hi : i < n := by simpa [nestT] using h1
  simp only [nestT, List.getElem_map, List.getElem_range, List.getElem_replicate]
  by_cases h : i + 1 < n
  · rw [if_pos h]
  · rw [if_neg h, if_pos (by omega)]; rfl

/-! a node's cost, its children one after the other -/
def accW (t : List Node) (v : Nat) (U : Nat → Int) (x0 : Int) (k : Nat) : Int := (List.range k).foldl (fun a w => if parOf t w = (v : Int) then comb a (U w) else a) x0
theorem accW_succ (t : List Node) (v : Nat) (U : Nat → Int) (x0 : Int) (k : Nat) : accW t v U x0 (k + 1) = if parOf t k = (v : Int) then comb (accW t v U x0 k) (U k) else accW t v U x0 k := by
  rw [accW, List.range_succ, List.foldl_append]; rfl
theorem accW_low {t : List Node} (ht : okTree t = true) {v : Nat} {U : Nat → Int} {x0 : Int} : ∀ {k : Nat}, k ≤ v + 1 → k ≤ t.length → accW t v U x0 k = x0
  | 0, _, _ => rfl
  | k + 1, h, hl => by
    rw [accW_succ, if_neg, accW_low ht (by omega) (by omega)]
    intro e
    by_cases h0 : k = 0
    · subst h0; rw [okTree_root ht] at e; omega
    · have := okTree_par ht (k := k) (by omega) (by omega)
      omega
theorem accW_m1 {t : List Node} {v : Nat} {U : Nat → Int} {x0 : Int} {a : Nat} (h : accW t v U x0 a = -1) : ∀ {b : Nat}, a ≤ b → accW t v U x0 b = -1
  | 0, hb => by rw [show (0 : Nat) = a by omega]; exact h
  | b + 1, hb => by
    rcases Nat.eq_or_lt_of_le hb with e | e
    · rw [← e]; exact h
    · rw [accW_succ, accW_m1 h (b := b) (by omega)]
      split
      · rw [comb, if_pos (by omega)]
      · rfl
theorem accW_bd {t : List Node} {v : Nat} {U : Nat → Int} {x0 B : Int} (h0 : -1 ≤ x0 ∧ x0 ≤ 0) (hB : 0 ≤ B) (hU : ∀ w, -1 ≤ U w ∧ U w ≤ B) : ∀ k : Nat, -1 ≤ accW t v U x0 k ∧ accW t v U x0 k ≤ k * B
  | 0 => by simp [accW, h0.1, h0.2]
  | k + 1 => by
    have ih := accW_bd (t := t) (v := v) h0 hB hU k
    have hu := hU k
    have e : ((k + 1 : Nat) : Int) * B = k * B + B := by rw [Int.natCast_add, Int.add_mul]; simp
    rw [accW_succ, e]
    split
    · rw [comb]; split <;> omega
    · omega
theorem accW_fin {t : List Node} {m : List (List Int)} {I : Fn2} (ht : okTree t = true) (u s : Nat) (hs : s < m.length) : accW t u (fun w => underF m (finF t m I) w s) (I u s) t.length = finF t m I u s := by
  rw [fin_kids ht u s hs, accW, foldl_if (fun w => parOf t w = (u : Int)) (fun a w => comb a (underF m (finF t m I) w s)), kidsN]
theorem Good.under_bd {t : List Node} {m : List (List Int)} {st : List Int} (g : Good t m st) (w s : Nat) : -1 ≤ underF m (solF t m st) w s ∧ underF m (solF t m st) w s ≤ 63 * 1073741824 :=
  bestTo_bd (by omega) _ fun b _ => by
    have h1 := g.mat.2.2.2 s b
    have h2 := g.bd w b
    rw [stepF]
    split <;> omega
theorem getD_rng (f : Nat → Int) {n b : Nat} (h : b < n) : ((List.range n).map f).getD b 0 = f b := by simp [List.getD, h]

theorem rTable_ok (t : List Node) (m : List (List Int)) (st : List Int) (hs : Small t) (hc : checkE t m st = 0) : Ok Try.prog E 66 [.c (nodes t), .c (rowsS m), .c (nums st)] (.c (rowsS (tabS t.length m.length (solF t m st)))) := by
  have g := good_of hc
  have hn63 := g.n63
  have hm12 := g.mat.2.1
  have hm0 := g.mat.1
  refine ok_of_vc (L := []) (ts := [6]) envOK mixed Try.func66 rfl (by kernel_rfl) rfl (by kernel_rfl) rfl fun hl => ?_
  obtain ⟨F, hF⟩ : ∃ F, solF t m st = F := ⟨_, rfl⟩
  obtain ⟨I, hI⟩ : ∃ I, iniF t m st = I := ⟨_, rfl⟩
  have hIb : ∀ v s, -1 ≤ I v s ∧ I v s ≤ 0 := fun v s => by rw [← hI]; exact ini_bd _ _ _ _ _ _
  have hbd := g.bd
  have hub := g.under_bd
  have hfin : ∀ u s, s < m.length → accW t u (fun w => underF m F w s) (I u s) t.length = F u s := fun u s hs => by rw [← hF, ← hI]; exact accW_fin g.tree u s hs
  rw [hF] at hbd hub
  simp only [hF]
  simp only [Try.f66, nums, rowsS, nodes, zv, bv, sv, nv, VL, VB, BEq.rfl, V1, V2, V3, V4, V5, V6, V7, V8, V9, V10, V11, V12, VE, Nat.reduceBEq, Nat.reduceAdd, Nat.reduceSub, Nat.reduceMul, Nat.reduceLeDiff, Nat.reduceLT, Nat.reduceEqDiff, Int.reduceBEq, Int.reduceBNe, Int.reduceLT, Int.reduceLE, Int.reduceAdd, Int.reduceSub, Int.reduceMul, kAgg, scD, List.all_cons, List.all_nil]
  refine ⟨by omega, ?_⟩
  have hw0 : IntKind.i64.wrap ((t.length : Int) - 1) = (t.length : Int) - 1 := wrap_in (by omega) (by omega)
  simp only [hw0, nums, rowsS, nodes, zv, bv, sv, nv, VL, VB, BEq.rfl, V1, V2, V3, V4, V5, V6, V7, V8, V9, V10, V11, V12, VE, Nat.reduceBEq, Nat.reduceAdd, Nat.reduceSub, Nat.reduceMul, Nat.reduceLeDiff, Nat.reduceLT, Nat.reduceEqDiff, Int.reduceBEq, Int.reduceBNe, Int.reduceLT, Int.reduceLE, Int.reduceAdd, Int.reduceSub, Int.reduceMul, kAgg, scD, List.all_cons, List.all_nil]
  refine LoopVC.mk (Y := Nat) (fun c => c ≤ t.length) (fun c => ⟨[(0, .c (nodes t)), (1, .c (rowsS m)), (2, .c (nums st)), (7, .osl 15 0), (8, zv ((c : Int) - 1))], [(15, .nest 29 0 0 none ((nestT t.length m.length F c 0).map (List.map num)))]⟩) (fun c => c) ⟨t.length, Enter.id ?_, Nat.le_refl _⟩ ?_
  · have e0 : List.replicate t.length ([] : List (List D)) = (nestT t.length m.length F t.length 0).map (List.map num) := by rw [nestT_all]; simp
    simp only [e0, nums, rowsS, nodes, zv, bv, sv, nv, VL, VB, BEq.rfl, V1, V2, V3, V4, V5, V6, V7, V8, V9, V10, V11, V12, VE, Nat.reduceBEq, Nat.reduceAdd, Nat.reduceSub, Nat.reduceMul, Nat.reduceLeDiff, Nat.reduceLT, Nat.reduceEqDiff, Int.reduceBEq, Int.reduceBNe, Int.reduceLT, Int.reduceLE, Int.reduceAdd, Int.reduceSub, Int.reduceMul, kAgg, scD, List.all_cons, List.all_nil]
  intro c hcn
  have e1 : decide ((0 : Int) ≤ (c : Int) - 1) = decide (0 < c) := by congr 1; exact propext ⟨fun h => by omega, fun h => by omega⟩
  simp only [e1, nums, rowsS, nodes, zv, bv, sv, nv, VL, VB, BEq.rfl, V1, V2, V3, V4, V5, V6, V7, V8, V9, V10, V11, V12, VE, Nat.reduceBEq, Nat.reduceAdd, Nat.reduceSub, Nat.reduceMul, Nat.reduceLeDiff, Nat.reduceLT, Nat.reduceEqDiff, Int.reduceBEq, Int.reduceBNe, Int.reduceLT, Int.reduceLE, Int.reduceAdd, Int.reduceSub, Int.reduceMul, kAgg, scD, List.all_cons, List.all_nil]
  refine guardB.mk (fun h => ?_) (fun h => ?_)
  · have hc0 : 0 < c := by simpa using h
    clear h
    obtain ⟨v, rfl⟩ : ∃ v, c = v + 1 := ⟨c - 1, by omega⟩
    have hv : v < t.length := by omega
    have e2 : ((v + 1 : Nat) : Int) - 1 = (v : Int) := by omega
    simp only [e2, nums, rowsS, nodes, zv, bv, sv, nv, VL, VB, BEq.rfl, V1, V2, V3, V4, V5, V6, V7, V8, V9, V10, V11, V12, VE, Nat.reduceBEq, Nat.reduceAdd, Nat.reduceSub, Nat.reduceMul, Nat.reduceLeDiff, Nat.reduceLT, Nat.reduceEqDiff, Int.reduceBEq, Int.reduceBNe, Int.reduceLT, Int.reduceLE, Int.reduceAdd, Int.reduceSub, Int.reduceMul, kAgg, scD, List.all_cons, List.all_nil]
    refine LoopVC.mk (Y := Nat) (fun s => s ≤ m.length) (fun s => ⟨[(0, .c (nodes t)), (1, .c (rowsS m)), (2, .c (nums st)), (7, .osl 15 0), (8, nv v), (9, nv s)], [(15, .nest 29 0 0 none ((nestT t.length m.length F (v + 1) s).map (List.map num)))]⟩) (fun s => m.length - s) ⟨0, Enter.id ?_, by omega⟩ ?_
    · simp only [nums, rowsS, nodes, zv, bv, sv, nv, VL, VB, BEq.rfl, V1, V2, V3, V4, V5, V6, V7, V8, V9, V10, V11, V12, VE, Nat.reduceBEq, Nat.reduceAdd, Nat.reduceSub, Nat.reduceMul, Nat.reduceLeDiff, Nat.reduceLT, Nat.reduceEqDiff, Int.reduceBEq, Int.reduceBNe, Int.reduceLT, Int.reduceLE, Int.reduceAdd, Int.reduceSub, Int.reduceMul, kAgg, scD, List.all_cons, List.all_nil]
      rfl
    intro s hsm
    simp only [lt_nat, nums, rowsS, nodes, zv, bv, sv, nv, VL, VB, BEq.rfl, V1, V2, V3, V4, V5, V6, V7, V8, V9, V10, V11, V12, VE, Nat.reduceBEq, Nat.reduceAdd, Nat.reduceSub, Nat.reduceMul, Nat.reduceLeDiff, Nat.reduceLT, Nat.reduceEqDiff, Int.reduceBEq, Int.reduceBNe, Int.reduceLT, Int.reduceLE, Int.reduceAdd, Int.reduceSub, Int.reduceMul, kAgg, scD, List.all_cons, List.all_nil]
    refine guardB.mk (fun h => ?_) (fun h => ?_)
    · have hs' : s < m.length := by simpa using h
      clear h
      obtain ⟨R, hR⟩ : ∃ R, (nestT t.length m.length F (v + 1) s).map (List.map num) = R := ⟨_, rfl⟩
      have hRl : R.length = t.length := by rw [← hR, List.length_map, nestT_len]
      have hRv : R.getD v [] = ((List.range s).map (F v)).map num := by rw [← hR, getD_rows, nestT_at hv]
      have hRw : ∀ w, v < w → w < t.length → R.getD w [] = ((List.range m.length).map (F w)).map num := fun w h1 h2 => by rw [← hR, getD_rows, nestT_up h1 h2]
      have hRs : R.set v (((List.range s).map (F v)).map num ++ [[.sc (.int .i64 (F v s))]]) = (nestT t.length m.length F (v + 1) (s + 1)).map (List.map num) := by
        rw [← hR, ← nestT_set hv, ← set_rows, List.map_append]; rfl
      simp only [hR]
      refine CallX.mk (may_ok t st v s m.length hs g.tree g.len hs') rfl ?_
      have hIv : ini (leavesOf t) st m.length (leavesOf t).length v s = I v s := by rw [← hI]
      have hIb := hIb v s
      have hfin := hfin v s hs'
      have hlow : accW t v (fun w => underF m F w s) (I v s) (v + 1) = I v s := accW_low g.tree (by omega) (by omega)
      have hstep := accW_succ t v (fun w => underF m F w s) (I v s)
      have hm1 : ∀ a, a ≤ t.length → accW t v (fun w => underF m F w s) (I v s) a = -1 → F v s = -1 := fun a ha h => by rw [← hfin]; exact accW_m1 h ha
      have habd := accW_bd (t := t) (v := v) (U := fun w => underF m F w s) hIb (B := 63 * 1073741824) (by omega) (fun w => hub w s)
      obtain ⟨A, hA⟩ : ∃ A, accW t v (fun w => underF m F w s) (I v s) = A := ⟨_, rfl⟩
      rw [hA] at hfin hlow hstep hm1 habd
      rw [hIv]
      have hvw : IntKind.i64.wrap ((v : Int) + 1) = ((v + 1 : Nat) : Int) := wrap_nat (by omega)
      simp only [nums, rowsS, nodes, zv, bv, sv, nv, VL, VB, BEq.rfl, V1, V2, V3, V4, V5, V6, V7, V8, V9, V10, V11, V12, VE, Nat.reduceBEq, Nat.reduceAdd, Nat.reduceSub, Nat.reduceMul, Nat.reduceLeDiff, Nat.reduceLT, Nat.reduceEqDiff, Int.reduceBEq, Int.reduceBNe, Int.reduceLT, Int.reduceLE, Int.reduceAdd, Int.reduceSub, Int.reduceMul, kAgg, scD, List.all_cons, List.all_nil]
      have key : ∀ x : Int, x = I v s → True := fun _ _ => trivial
      refine guardB.mk (fun h => ?_) (fun h => ?_) <;> simp only [h, nums, rowsS, nodes, zv, bv, sv, nv, VL, VB, BEq.rfl, V1, V2, V3, V4, V5, V6, V7, V8, V9, V10, V11, V12, VE, Nat.reduceBEq, Nat.reduceAdd, Nat.reduceSub, Nat.reduceMul, Nat.reduceLeDiff, Nat.reduceLT, Nat.reduceEqDiff, Int.reduceBEq, Int.reduceBNe, Int.reduceLT, Int.reduceLE, Int.reduceAdd, Int.reduceSub, Int.reduceMul, kAgg, scD, List.all_cons, List.all_nil]
      · have hi : ¬ I v s = 0 := by simpa using h
        have hI0 : I v s = -1 := by omega
        refine LoopVC.cut (Y := Nat) (Z := Unit) 4 (fun w => v < w ∧ w ≤ t.length) (fun w => ⟨[(0, .c (nodes t)), (1, .c (rowsS m)), (2, .c (nums st)), (7, .osl 15 0), (8, nv v), (9, nv s), (10, zv (A w)), (11, nv w)], [(15, .nest 29 0 0 none R)]⟩) (fun w => t.length - w)
          (fun _ => True) (fun _ => ⟨[(0, .c (nodes t)), (1, .c (rowsS m)), (2, .c (nums st)), (7, .osl 15 0), (8, nv v), (9, nv s), (10, zv (F v s))], [(15, .nest 29 0 0 none R)]⟩) ⟨v + 1, Enter.id ?_, by omega, by omega⟩ ?_ ?_
        · simp only [hlow, hI0, hvw, nums, rowsS, nodes, zv, bv, sv, nv, VL, VB, BEq.rfl, V1, V2, V3, V4, V5, V6, V7, V8, V9, V10, V11, V12, VE, Nat.reduceBEq, Nat.reduceAdd, Nat.reduceSub, Nat.reduceMul, Nat.reduceLeDiff, Nat.reduceLT, Nat.reduceEqDiff, Int.reduceBEq, Int.reduceBNe, Int.reduceLT, Int.reduceLE, Int.reduceAdd, Int.reduceSub, Int.reduceMul, kAgg, scD, List.all_cons, List.all_nil]
        · rintro w ⟨hvw, hw⟩
          simp only [lt_nat, nums, rowsS, nodes, zv, bv, sv, nv, VL, VB, BEq.rfl, V1, V2, V3, V4, V5, V6, V7, V8, V9, V10, V11, V12, VE, Nat.reduceBEq, Nat.reduceAdd, Nat.reduceSub, Nat.reduceMul, Nat.reduceLeDiff, Nat.reduceLT, Nat.reduceEqDiff, Int.reduceBEq, Int.reduceBNe, Int.reduceLT, Int.reduceLE, Int.reduceAdd, Int.reduceSub, Int.reduceMul, kAgg, scD, List.all_cons, List.all_nil]
          have hab := habd w
          have hst := hstep w
          refine guardB.mk (fun h => ?_) (fun h => ?_) <;> simp only [h, nums, rowsS, nodes, zv, bv, sv, nv, VL, VB, BEq.rfl, V1, V2, V3, V4, V5, V6, V7, V8, V9, V10, V11, V12, VE, Nat.reduceBEq, Nat.reduceAdd, Nat.reduceSub, Nat.reduceMul, Nat.reduceLeDiff, Nat.reduceLT, Nat.reduceEqDiff, Int.reduceBEq, Int.reduceBNe, Int.reduceLT, Int.reduceLE, Int.reduceAdd, Int.reduceSub, Int.reduceMul, kAgg, scD, List.all_cons, List.all_nil]
          · have hw' : w < t.length := by simpa using h
            clear h
            refine guardB.mk (fun h => ?_) (fun h => ?_) <;> simp only [h, nums, rowsS, nodes, zv, bv, sv, nv, VL, VB, BEq.rfl, V1, V2, V3, V4, V5, V6, V7, V8, V9, V10, V11, V12, VE, Nat.reduceBEq, Nat.reduceAdd, Nat.reduceSub, Nat.reduceMul, Nat.reduceLeDiff, Nat.reduceLT, Nat.reduceEqDiff, Int.reduceBEq, Int.reduceBNe, Int.reduceLT, Int.reduceLE, Int.reduceAdd, Int.reduceSub, Int.reduceMul, kAgg, scD, List.all_cons, List.all_nil]
            · have ha : 0 ≤ A w := by simpa using h
              clear h
              have hx : (t.getD w Node.zero).parent = parOf t w := rfl
              have eb : (parOf t w != (v : Int)) = !decide (parOf t w = (v : Int)) := by rw [bne, int_beq]
              simp only [getD_node t w hw', node_def, hx, eb, nums, rowsS, nodes, zv, bv, sv, nv, VL, VB, BEq.rfl, V1, V2, V3, V4, V5, V6, V7, V8, V9, V10, V11, V12, VE, Nat.reduceBEq, Nat.reduceAdd, Nat.reduceSub, Nat.reduceMul, Nat.reduceLeDiff, Nat.reduceLT, Nat.reduceEqDiff, Int.reduceBEq, Int.reduceBNe, Int.reduceLT, Int.reduceLE, Int.reduceAdd, Int.reduceSub, Int.reduceMul, kAgg, scD, List.all_cons, List.all_nil]
              refine ⟨⟨Int.natCast_nonneg w, hw'⟩, ?_⟩
              by_cases hp : parOf t w = (v : Int)
              · rw [if_pos hp] at hst
                have hrw := hRw w hvw hw'
                simp only [hp, hRl, hrw, nums, rowsS, nodes, zv, bv, sv, nv, VL, VB, BEq.rfl, V1, V2, V3, V4, V5, V6, V7, V8, V9, V10, V11, V12, VE, Nat.reduceBEq, Nat.reduceAdd, Nat.reduceSub, Nat.reduceMul, Nat.reduceLeDiff, Nat.reduceLT, Nat.reduceEqDiff, Int.reduceBEq, Int.reduceBNe, Int.reduceLT, Int.reduceLE, Int.reduceAdd, Int.reduceSub, Int.reduceMul, kAgg, scD, List.all_cons, List.all_nil]
                refine ⟨Int.natCast_nonneg w, hw', hw', ?_⟩
                refine CallX.mk (under_ok m ((List.range m.length).map (F w)) s (F w) g.mat hs' (by simp) fun b hb => ⟨getD_rng _ hb, by have := hbd w b; omega⟩) rfl ?_
                have hue : (bestTo (fun b => if cellAt m s b = -1 ∨ F w b = -1 then -1 else cellAt m s b + F w b) m.length).1 = underF m F w s := rfl
                have hu := hub w s
                rw [hue]
                obtain ⟨u, hu2⟩ : ∃ u, underF m F w s = u := ⟨_, rfl⟩
                simp only [hu2] at hst hu ⊢
                simp only [nums, rowsS, nodes, zv, bv, sv, nv, VL, VB, BEq.rfl, V1, V2, V3, V4, V5, V6, V7, V8, V9, V10, V11, V12, VE, Nat.reduceBEq, Nat.reduceAdd, Nat.reduceSub, Nat.reduceMul, Nat.reduceLeDiff, Nat.reduceLT, Nat.reduceEqDiff, Int.reduceBEq, Int.reduceBNe, Int.reduceLT, Int.reduceLE, Int.reduceAdd, Int.reduceSub, Int.reduceMul, kAgg, scD, List.all_cons, List.all_nil]
                refine guardB.mk (fun h => ?_) (fun h => ?_) <;> simp only [h, nums, rowsS, nodes, zv, bv, sv, nv, VL, VB, BEq.rfl, V1, V2, V3, V4, V5, V6, V7, V8, V9, V10, V11, V12, VE, Nat.reduceBEq, Nat.reduceAdd, Nat.reduceSub, Nat.reduceMul, Nat.reduceLeDiff, Nat.reduceLT, Nat.reduceEqDiff, Int.reduceBEq, Int.reduceBNe, Int.reduceLT, Int.reduceLE, Int.reduceAdd, Int.reduceSub, Int.reduceMul, kAgg, scD, List.all_cons, List.all_nil]
                · have h1 : u < 0 := by simpa using h
                  rw [comb, if_pos (by omega)] at hst
                  simp only [wrap_nat (k := w) (by omega), nums, rowsS, nodes, zv, bv, sv, nv, VL, VB, BEq.rfl, V1, V2, V3, V4, V5, V6, V7, V8, V9, V10, V11, V12, VE, Nat.reduceBEq, Nat.reduceAdd, Nat.reduceSub, Nat.reduceMul, Nat.reduceLeDiff, Nat.reduceLT, Nat.reduceEqDiff, Int.reduceBEq, Int.reduceBNe, Int.reduceLT, Int.reduceLE, Int.reduceAdd, Int.reduceSub, Int.reduceMul, kAgg, scD, List.all_cons, List.all_nil]
                  refine ⟨w + 1, Enter.id ?_, by omega, by show t.length - (w + 1) < t.length - w; omega⟩
                  simp only [hst, nums, rowsS, nodes, zv, bv, sv, nv, VL, VB, BEq.rfl, V1, V2, V3, V4, V5, V6, V7, V8, V9, V10, V11, V12, VE, Nat.reduceBEq, Nat.reduceAdd, Nat.reduceSub, Nat.reduceMul, Nat.reduceLeDiff, Nat.reduceLT, Nat.reduceEqDiff, Int.reduceBEq, Int.reduceBNe, Int.reduceLT, Int.reduceLE, Int.reduceAdd, Int.reduceSub, Int.reduceMul, kAgg, scD, List.all_cons, List.all_nil]
                · have h1 : ¬ u < 0 := by simpa using h
                  rw [comb, if_neg (by omega)] at hst
                  have hwr : IntKind.i64.wrap (A w + u) = A w + u := wrap_in (by omega) (by omega)
                  simp only [hwr, wrap_nat (k := w) (by omega), nums, rowsS, nodes, zv, bv, sv, nv, VL, VB, BEq.rfl, V1, V2, V3, V4, V5, V6, V7, V8, V9, V10, V11, V12, VE, Nat.reduceBEq, Nat.reduceAdd, Nat.reduceSub, Nat.reduceMul, Nat.reduceLeDiff, Nat.reduceLT, Nat.reduceEqDiff, Int.reduceBEq, Int.reduceBNe, Int.reduceLT, Int.reduceLE, Int.reduceAdd, Int.reduceSub, Int.reduceMul, kAgg, scD, List.all_cons, List.all_nil]
                  refine ⟨w + 1, Enter.id ?_, by omega, by show t.length - (w + 1) < t.length - w; omega⟩
                  simp only [hst, nums, rowsS, nodes, zv, bv, sv, nv, VL, VB, BEq.rfl, V1, V2, V3, V4, V5, V6, V7, V8, V9, V10, V11, V12, VE, Nat.reduceBEq, Nat.reduceAdd, Nat.reduceSub, Nat.reduceMul, Nat.reduceLeDiff, Nat.reduceLT, Nat.reduceEqDiff, Int.reduceBEq, Int.reduceBNe, Int.reduceLT, Int.reduceLE, Int.reduceAdd, Int.reduceSub, Int.reduceMul, kAgg, scD, List.all_cons, List.all_nil]
              · rw [if_neg hp] at hst
                simp only [hp, wrap_nat (k := w) (by omega), nums, rowsS, nodes, zv, bv, sv, nv, VL, VB, BEq.rfl, V1, V2, V3, V4, V5, V6, V7, V8, V9, V10, V11, V12, VE, Nat.reduceBEq, Nat.reduceAdd, Nat.reduceSub, Nat.reduceMul, Nat.reduceLeDiff, Nat.reduceLT, Nat.reduceEqDiff, Int.reduceBEq, Int.reduceBNe, Int.reduceLT, Int.reduceLE, Int.reduceAdd, Int.reduceSub, Int.reduceMul, kAgg, scD, List.all_cons, List.all_nil]
                refine ⟨w + 1, Enter.id ?_, by omega, by show t.length - (w + 1) < t.length - w; omega⟩
                simp only [hst, nums, rowsS, nodes, zv, bv, sv, nv, VL, VB, BEq.rfl, V1, V2, V3, V4, V5, V6, V7, V8, V9, V10, V11, V12, VE, Nat.reduceBEq, Nat.reduceAdd, Nat.reduceSub, Nat.reduceMul, Nat.reduceLeDiff, Nat.reduceLT, Nat.reduceEqDiff, Int.reduceBEq, Int.reduceBNe, Int.reduceLT, Int.reduceLE, Int.reduceAdd, Int.reduceSub, Int.reduceMul, kAgg, scD, List.all_cons, List.all_nil]
            · have ha : ¬ 0 ≤ A w := by simpa using h
              have hF1 : F v s = -1 := hm1 w hw (by omega)
              refine ⟨(), Enter.id ?_, trivial⟩
              simp only [hF1, show A w = -1 by omega, nums, rowsS, nodes, zv, bv, sv, nv, VL, VB, BEq.rfl, V1, V2, V3, V4, V5, V6, V7, V8, V9, V10, V11, V12, VE, Nat.reduceBEq, Nat.reduceAdd, Nat.reduceSub, Nat.reduceMul, Nat.reduceLeDiff, Nat.reduceLT, Nat.reduceEqDiff, Int.reduceBEq, Int.reduceBNe, Int.reduceLT, Int.reduceLE, Int.reduceAdd, Int.reduceSub, Int.reduceMul, kAgg, scD, List.all_cons, List.all_nil]
          · have hw' : w = t.length := by
              have : ¬ w < t.length := by simpa using h
              omega
            refine ⟨(), Enter.id ?_, trivial⟩
            simp only [hw', hfin, nums, rowsS, nodes, zv, bv, sv, nv, VL, VB, BEq.rfl, V1, V2, V3, V4, V5, V6, V7, V8, V9, V10, V11, V12, VE, Nat.reduceBEq, Nat.reduceAdd, Nat.reduceSub, Nat.reduceMul, Nat.reduceLeDiff, Nat.reduceLT, Nat.reduceEqDiff, Int.reduceBEq, Int.reduceBNe, Int.reduceLT, Int.reduceLE, Int.reduceAdd, Int.reduceSub, Int.reduceMul, kAgg, scD, List.all_cons, List.all_nil]
        · intro _ _
          simp only [hRl, hRv, nums, rowsS, nodes, zv, bv, sv, nv, VL, VB, BEq.rfl, V1, V2, V3, V4, V5, V6, V7, V8, V9, V10, V11, V12, VE, Nat.reduceBEq, Nat.reduceAdd, Nat.reduceSub, Nat.reduceMul, Nat.reduceLeDiff, Nat.reduceLT, Nat.reduceEqDiff, Int.reduceBEq, Int.reduceBNe, Int.reduceLT, Int.reduceLE, Int.reduceAdd, Int.reduceSub, Int.reduceMul, kAgg, scD, List.all_cons, List.all_nil]
          refine ⟨Int.natCast_nonneg v, hv, hv, ⟨?_, allLen_num [F v s]⟩, Int.natCast_nonneg v, by rw [List.length_set]; omega, ?_⟩
          · simp only [List.length_range]; omega
          simp only [hRs, wrap_nat (k := s) (by omega), nums, rowsS, nodes, zv, bv, sv, nv, VL, VB, BEq.rfl, V1, V2, V3, V4, V5, V6, V7, V8, V9, V10, V11, V12, VE, Nat.reduceBEq, Nat.reduceAdd, Nat.reduceSub, Nat.reduceMul, Nat.reduceLeDiff, Nat.reduceLT, Nat.reduceEqDiff, Int.reduceBEq, Int.reduceBNe, Int.reduceLT, Int.reduceLE, Int.reduceAdd, Int.reduceSub, Int.reduceMul, kAgg, scD, List.all_cons, List.all_nil]
          refine ⟨s + 1, Enter.id ?_, by omega, by show m.length - (s + 1) < m.length - s; omega⟩
          simp only [nums, rowsS, nodes, zv, bv, sv, nv, VL, VB, BEq.rfl, V1, V2, V3, V4, V5, V6, V7, V8, V9, V10, V11, V12, VE, Nat.reduceBEq, Nat.reduceAdd, Nat.reduceSub, Nat.reduceMul, Nat.reduceLeDiff, Nat.reduceLT, Nat.reduceEqDiff, Int.reduceBEq, Int.reduceBNe, Int.reduceLT, Int.reduceLE, Int.reduceAdd, Int.reduceSub, Int.reduceMul, kAgg, scD, List.all_cons, List.all_nil]
      · have hI0 : I v s = 0 := by simpa using h
        refine LoopVC.cut (Y := Nat) (Z := Unit) 4 (fun w => v < w ∧ w ≤ t.length) (fun w => ⟨[(0, .c (nodes t)), (1, .c (rowsS m)), (2, .c (nums st)), (7, .osl 15 0), (8, nv v), (9, nv s), (10, zv (A w)), (11, nv w)], [(15, .nest 29 0 0 none R)]⟩) (fun w => t.length - w)
          (fun _ => True) (fun _ => ⟨[(0, .c (nodes t)), (1, .c (rowsS m)), (2, .c (nums st)), (7, .osl 15 0), (8, nv v), (9, nv s), (10, zv (F v s))], [(15, .nest 29 0 0 none R)]⟩) ⟨v + 1, Enter.id ?_, by omega, by omega⟩ ?_ ?_
        · simp only [hlow, hI0, hvw, nums, rowsS, nodes, zv, bv, sv, nv, VL, VB, BEq.rfl, V1, V2, V3, V4, V5, V6, V7, V8, V9, V10, V11, V12, VE, Nat.reduceBEq, Nat.reduceAdd, Nat.reduceSub, Nat.reduceMul, Nat.reduceLeDiff, Nat.reduceLT, Nat.reduceEqDiff, Int.reduceBEq, Int.reduceBNe, Int.reduceLT, Int.reduceLE, Int.reduceAdd, Int.reduceSub, Int.reduceMul, kAgg, scD, List.all_cons, List.all_nil]
        · rintro w ⟨hvw, hw⟩
          simp only [lt_nat, nums, rowsS, nodes, zv, bv, sv, nv, VL, VB, BEq.rfl, V1, V2, V3, V4, V5, V6, V7, V8, V9, V10, V11, V12, VE, Nat.reduceBEq, Nat.reduceAdd, Nat.reduceSub, Nat.reduceMul, Nat.reduceLeDiff, Nat.reduceLT, Nat.reduceEqDiff, Int.reduceBEq, Int.reduceBNe, Int.reduceLT, Int.reduceLE, Int.reduceAdd, Int.reduceSub, Int.reduceMul, kAgg, scD, List.all_cons, List.all_nil]
          have hab := habd w
          have hst := hstep w
          refine guardB.mk (fun h => ?_) (fun h => ?_) <;> simp only [h, nums, rowsS, nodes, zv, bv, sv, nv, VL, VB, BEq.rfl, V1, V2, V3, V4, V5, V6, V7, V8, V9, V10, V11, V12, VE, Nat.reduceBEq, Nat.reduceAdd, Nat.reduceSub, Nat.reduceMul, Nat.reduceLeDiff, Nat.reduceLT, Nat.reduceEqDiff, Int.reduceBEq, Int.reduceBNe, Int.reduceLT, Int.reduceLE, Int.reduceAdd, Int.reduceSub, Int.reduceMul, kAgg, scD, List.all_cons, List.all_nil]
          · have hw' : w < t.length := by simpa using h
            clear h
            refine guardB.mk (fun h => ?_) (fun h => ?_) <;> simp only [h, nums, rowsS, nodes, zv, bv, sv, nv, VL, VB, BEq.rfl, V1, V2, V3, V4, V5, V6, V7, V8, V9, V10, V11, V12, VE, Nat.reduceBEq, Nat.reduceAdd, Nat.reduceSub, Nat.reduceMul, Nat.reduceLeDiff, Nat.reduceLT, Nat.reduceEqDiff, Int.reduceBEq, Int.reduceBNe, Int.reduceLT, Int.reduceLE, Int.reduceAdd, Int.reduceSub, Int.reduceMul, kAgg, scD, List.all_cons, List.all_nil]
            · have ha : 0 ≤ A w := by simpa using h
              clear h
              have hx : (t.getD w Node.zero).parent = parOf t w := rfl
              have eb : (parOf t w != (v : Int)) = !decide (parOf t w = (v : Int)) := by rw [bne, int_beq]
              simp only [getD_node t w hw', node_def, hx, eb, nums, rowsS, nodes, zv, bv, sv, nv, VL, VB, BEq.rfl, V1, V2, V3, V4, V5, V6, V7, V8, V9, V10, V11, V12, VE, Nat.reduceBEq, Nat.reduceAdd, Nat.reduceSub, Nat.reduceMul, Nat.reduceLeDiff, Nat.reduceLT, Nat.reduceEqDiff, Int.reduceBEq, Int.reduceBNe, Int.reduceLT, Int.reduceLE, Int.reduceAdd, Int.reduceSub, Int.reduceMul, kAgg, scD, List.all_cons, List.all_nil]
              refine ⟨⟨Int.natCast_nonneg w, hw'⟩, ?_⟩
              by_cases hp : parOf t w = (v : Int)
              · rw [if_pos hp] at hst
                have hrw := hRw w hvw hw'
                simp only [hp, hRl, hrw, nums, rowsS, nodes, zv, bv, sv, nv, VL, VB, BEq.rfl, V1, V2, V3, V4, V5, V6, V7, V8, V9, V10, V11, V12, VE, Nat.reduceBEq, Nat.reduceAdd, Nat.reduceSub, Nat.reduceMul, Nat.reduceLeDiff, Nat.reduceLT, Nat.reduceEqDiff, Int.reduceBEq, Int.reduceBNe, Int.reduceLT, Int.reduceLE, Int.reduceAdd, Int.reduceSub, Int.reduceMul, kAgg, scD, List.all_cons, List.all_nil]
                refine ⟨Int.natCast_nonneg w, hw', hw', ?_⟩
                refine CallX.mk (under_ok m ((List.range m.length).map (F w)) s (F w) g.mat hs' (by simp) fun b hb => ⟨getD_rng _ hb, by have := hbd w b; omega⟩) rfl ?_
                have hue : (bestTo (fun b => if cellAt m s b = -1 ∨ F w b = -1 then -1 else cellAt m s b + F w b) m.length).1 = underF m F w s := rfl
                have hu := hub w s
                rw [hue]
                obtain ⟨u, hu2⟩ : ∃ u, underF m F w s = u := ⟨_, rfl⟩
                simp only [hu2] at hst hu ⊢
                simp only [nums, rowsS, nodes, zv, bv, sv, nv, VL, VB, BEq.rfl, V1, V2, V3, V4, V5, V6, V7, V8, V9, V10, V11, V12, VE, Nat.reduceBEq, Nat.reduceAdd, Nat.reduceSub, Nat.reduceMul, Nat.reduceLeDiff, Nat.reduceLT, Nat.reduceEqDiff, Int.reduceBEq, Int.reduceBNe, Int.reduceLT, Int.reduceLE, Int.reduceAdd, Int.reduceSub, Int.reduceMul, kAgg, scD, List.all_cons, List.all_nil]
                refine guardB.mk (fun h => ?_) (fun h => ?_) <;> simp only [h, nums, rowsS, nodes, zv, bv, sv, nv, VL, VB, BEq.rfl, V1, V2, V3, V4, V5, V6, V7, V8, V9, V10, V11, V12, VE, Nat.reduceBEq, Nat.reduceAdd, Nat.reduceSub, Nat.reduceMul, Nat.reduceLeDiff, Nat.reduceLT, Nat.reduceEqDiff, Int.reduceBEq, Int.reduceBNe, Int.reduceLT, Int.reduceLE, Int.reduceAdd, Int.reduceSub, Int.reduceMul, kAgg, scD, List.all_cons, List.all_nil]
                · have h1 : u < 0 := by simpa using h
                  rw [comb, if_pos (by omega)] at hst
                  simp only [wrap_nat (k := w) (by omega), nums, rowsS, nodes, zv, bv, sv, nv, VL, VB, BEq.rfl, V1, V2, V3, V4, V5, V6, V7, V8, V9, V10, V11, V12, VE, Nat.reduceBEq, Nat.reduceAdd, Nat.reduceSub, Nat.reduceMul, Nat.reduceLeDiff, Nat.reduceLT, Nat.reduceEqDiff, Int.reduceBEq, Int.reduceBNe, Int.reduceLT, Int.reduceLE, Int.reduceAdd, Int.reduceSub, Int.reduceMul, kAgg, scD, List.all_cons, List.all_nil]
                  refine ⟨w + 1, Enter.id ?_, by omega, by show t.length - (w + 1) < t.length - w; omega⟩
                  simp only [hst, nums, rowsS, nodes, zv, bv, sv, nv, VL, VB, BEq.rfl, V1, V2, V3, V4, V5, V6, V7, V8, V9, V10, V11, V12, VE, Nat.reduceBEq, Nat.reduceAdd, Nat.reduceSub, Nat.reduceMul, Nat.reduceLeDiff, Nat.reduceLT, Nat.reduceEqDiff, Int.reduceBEq, Int.reduceBNe, Int.reduceLT, Int.reduceLE, Int.reduceAdd, Int.reduceSub, Int.reduceMul, kAgg, scD, List.all_cons, List.all_nil]
                · have h1 : ¬ u < 0 := by simpa using h
                  rw [comb, if_neg (by omega)] at hst
                  have hwr : IntKind.i64.wrap (A w + u) = A w + u := wrap_in (by omega) (by omega)
                  simp only [hwr, wrap_nat (k := w) (by omega), nums, rowsS, nodes, zv, bv, sv, nv, VL, VB, BEq.rfl, V1, V2, V3, V4, V5, V6, V7, V8, V9, V10, V11, V12, VE, Nat.reduceBEq, Nat.reduceAdd, Nat.reduceSub, Nat.reduceMul, Nat.reduceLeDiff, Nat.reduceLT, Nat.reduceEqDiff, Int.reduceBEq, Int.reduceBNe, Int.reduceLT, Int.reduceLE, Int.reduceAdd, Int.reduceSub, Int.reduceMul, kAgg, scD, List.all_cons, List.all_nil]
                  refine ⟨w + 1, Enter.id ?_, by omega, by show t.length - (w + 1) < t.length - w; omega⟩
                  simp only [hst, nums, rowsS, nodes, zv, bv, sv, nv, VL, VB, BEq.rfl, V1, V2, V3, V4, V5, V6, V7, V8, V9, V10, V11, V12, VE, Nat.reduceBEq, Nat.reduceAdd, Nat.reduceSub, Nat.reduceMul, Nat.reduceLeDiff, Nat.reduceLT, Nat.reduceEqDiff, Int.reduceBEq, Int.reduceBNe, Int.reduceLT, Int.reduceLE, Int.reduceAdd, Int.reduceSub, Int.reduceMul, kAgg, scD, List.all_cons, List.all_nil]
              · rw [if_neg hp] at hst
                simp only [hp, wrap_nat (k := w) (by omega), nums, rowsS, nodes, zv, bv, sv, nv, VL, VB, BEq.rfl, V1, V2, V3, V4, V5, V6, V7, V8, V9, V10, V11, V12, VE, Nat.reduceBEq, Nat.reduceAdd, Nat.reduceSub, Nat.reduceMul, Nat.reduceLeDiff, Nat.reduceLT, Nat.reduceEqDiff, Int.reduceBEq, Int.reduceBNe, Int.reduceLT, Int.reduceLE, Int.reduceAdd, Int.reduceSub, Int.reduceMul, kAgg, scD, List.all_cons, List.all_nil]
                refine ⟨w + 1, Enter.id ?_, by omega, by show t.length - (w + 1) < t.length - w; omega⟩
                simp only [hst, nums, rowsS, nodes, zv, bv, sv, nv, VL, VB, BEq.rfl, V1, V2, V3, V4, V5, V6, V7, V8, V9, V10, V11, V12, VE, Nat.reduceBEq, Nat.reduceAdd, Nat.reduceSub, Nat.reduceMul, Nat.reduceLeDiff, Nat.reduceLT, Nat.reduceEqDiff, Int.reduceBEq, Int.reduceBNe, Int.reduceLT, Int.reduceLE, Int.reduceAdd, Int.reduceSub, Int.reduceMul, kAgg, scD, List.all_cons, List.all_nil]
            · have ha : ¬ 0 ≤ A w := by simpa using h
              have hF1 : F v s = -1 := hm1 w hw (by omega)
              refine ⟨(), Enter.id ?_, trivial⟩
              simp only [hF1, show A w = -1 by omega, nums, rowsS, nodes, zv, bv, sv, nv, VL, VB, BEq.rfl, V1, V2, V3, V4, V5, V6, V7, V8, V9, V10, V11, V12, VE, Nat.reduceBEq, Nat.reduceAdd, Nat.reduceSub, Nat.reduceMul, Nat.reduceLeDiff, Nat.reduceLT, Nat.reduceEqDiff, Int.reduceBEq, Int.reduceBNe, Int.reduceLT, Int.reduceLE, Int.reduceAdd, Int.reduceSub, Int.reduceMul, kAgg, scD, List.all_cons, List.all_nil]
          · have hw' : w = t.length := by
              have : ¬ w < t.length := by simpa using h
              omega
            refine ⟨(), Enter.id ?_, trivial⟩
            simp only [hw', hfin, nums, rowsS, nodes, zv, bv, sv, nv, VL, VB, BEq.rfl, V1, V2, V3, V4, V5, V6, V7, V8, V9, V10, V11, V12, VE, Nat.reduceBEq, Nat.reduceAdd, Nat.reduceSub, Nat.reduceMul, Nat.reduceLeDiff, Nat.reduceLT, Nat.reduceEqDiff, Int.reduceBEq, Int.reduceBNe, Int.reduceLT, Int.reduceLE, Int.reduceAdd, Int.reduceSub, Int.reduceMul, kAgg, scD, List.all_cons, List.all_nil]
        · intro _ _
          simp only [hRl, hRv, nums, rowsS, nodes, zv, bv, sv, nv, VL, VB, BEq.rfl, V1, V2, V3, V4, V5, V6, V7, V8, V9, V10, V11, V12, VE, Nat.reduceBEq, Nat.reduceAdd, Nat.reduceSub, Nat.reduceMul, Nat.reduceLeDiff, Nat.reduceLT, Nat.reduceEqDiff, Int.reduceBEq, Int.reduceBNe, Int.reduceLT, Int.reduceLE, Int.reduceAdd, Int.reduceSub, Int.reduceMul, kAgg, scD, List.all_cons, List.all_nil]
          refine ⟨Int.natCast_nonneg v, hv, hv, ⟨?_, allLen_num [F v s]⟩, Int.natCast_nonneg v, by rw [List.length_set]; omega, ?_⟩
          · simp only [List.length_range]; omega
          simp only [hRs, wrap_nat (k := s) (by omega), nums, rowsS, nodes, zv, bv, sv, nv, VL, VB, BEq.rfl, V1, V2, V3, V4, V5, V6, V7, V8, V9, V10, V11, V12, VE, Nat.reduceBEq, Nat.reduceAdd, Nat.reduceSub, Nat.reduceMul, Nat.reduceLeDiff, Nat.reduceLT, Nat.reduceEqDiff, Int.reduceBEq, Int.reduceBNe, Int.reduceLT, Int.reduceLE, Int.reduceAdd, Int.reduceSub, Int.reduceMul, kAgg, scD, List.all_cons, List.all_nil]
          refine ⟨s + 1, Enter.id ?_, by omega, by show m.length - (s + 1) < m.length - s; omega⟩
          simp only [nums, rowsS, nodes, zv, bv, sv, nv, VL, VB, BEq.rfl, V1, V2, V3, V4, V5, V6, V7, V8, V9, V10, V11, V12, VE, Nat.reduceBEq, Nat.reduceAdd, Nat.reduceSub, Nat.reduceMul, Nat.reduceLeDiff, Nat.reduceLT, Nat.reduceEqDiff, Int.reduceBEq, Int.reduceBNe, Int.reduceLT, Int.reduceLE, Int.reduceAdd, Int.reduceSub, Int.reduceMul, kAgg, scD, List.all_cons, List.all_nil]
    · have hs' : s = m.length := by
        have : ¬ s < m.length := by simpa using h
        omega
      subst hs'
      have hvw : IntKind.i64.wrap ((v : Int) - 1) = (v : Int) - 1 := wrap_in (by omega) (by omega)
      simp only [hvw, nums, rowsS, nodes, zv, bv, sv, nv, VL, VB, BEq.rfl, V1, V2, V3, V4, V5, V6, V7, V8, V9, V10, V11, V12, VE, Nat.reduceBEq, Nat.reduceAdd, Nat.reduceSub, Nat.reduceMul, Nat.reduceLeDiff, Nat.reduceLT, Nat.reduceEqDiff, Int.reduceBEq, Int.reduceBNe, Int.reduceLT, Int.reduceLE, Int.reduceAdd, Int.reduceSub, Int.reduceMul, kAgg, scD, List.all_cons, List.all_nil]
      refine ⟨v, Enter.id ?_, by omega, by show v < v + 1; omega⟩
      simp only [nestT_next, nums, rowsS, nodes, zv, bv, sv, nv, VL, VB, BEq.rfl, V1, V2, V3, V4, V5, V6, V7, V8, V9, V10, V11, V12, VE, Nat.reduceBEq, Nat.reduceAdd, Nat.reduceSub, Nat.reduceMul, Nat.reduceLeDiff, Nat.reduceLT, Nat.reduceEqDiff, Int.reduceBEq, Int.reduceBNe, Int.reduceLT, Int.reduceLE, Int.reduceAdd, Int.reduceSub, Int.reduceMul, kAgg, scD, List.all_cons, List.all_nil]
  · have hc0 : c = 0 := by
      have : ¬ 0 < c := by simpa using h
      omega
    subst hc0
    simp only [nestT_zero, rowsD_num, nums, rowsS, nodes, zv, bv, sv, nv, VL, VB, BEq.rfl, V1, V2, V3, V4, V5, V6, V7, V8, V9, V10, V11, V12, VE, Nat.reduceBEq, Nat.reduceAdd, Nat.reduceSub, Nat.reduceMul, Nat.reduceLeDiff, Nat.reduceLT, Nat.reduceEqDiff, Int.reduceBEq, Int.reduceBNe, Int.reduceLT, Int.reduceLE, Int.reduceAdd, Int.reduceSub, Int.reduceMul, kAgg, scD, List.all_cons, List.all_nil]

end Go.Cp
end

section
set_option linter.unusedVariables false
set_option linter.unusedSimpArgs false
set_option maxHeartbeats 4000000
set_option maxRecDepth 10000
namespace Go.Cp
open Go Go.Proofs Go.Vx

theorem tabS_at {n ns : Nat} {F : Fn2} {v : Nat} (hv : v < n) : (tabS n ns F).getD v [] = (List.range ns).map (F v) := by simp [tabS, List.getD, hv]
theorem tabS_len (n ns : Nat) (F : Fn2) : (tabS n ns F).length = n := by simp [tabS]
theorem getD_tabS {n ns : Nat} {F : Fn2} {v : Nat} (hv : v < n) : ((tabS n ns F).map rowS).getD v [] = [.sl (((List.range ns).map (F v)).map num)] := by
  rw [getD_rowS _ v (by rw [tabS_len]; exact hv), tabS_at hv]; rfl

theorem smallest_ok (c : List Int) (hlen : c.length ≤ 12) (hc : ∀ s, -1 ≤ c.getD s 0) : Ok Try.prog E 71 [.c (nums c)] (zv (bestTo (fun s => c.getD s 0) c.length).1) := by
  refine ok_of_vc (L := []) (ts := [2]) envOK mixed Try.func71 rfl (by kernel_rfl) rfl (by kernel_rfl) rfl fun hl => ?_
  obtain ⟨C, hC⟩ : ∃ C : Nat → Int, C = fun b => c.getD b 0 := ⟨_, rfl⟩
  rw [← hC]
  simp only [Try.f71, nums, rowsS, nodes, zv, bv, sv, nv, VL, VB, BEq.rfl, V1, V2, V3, V4, V5, V6, V7, V8, V9, V10, V11, V12, VE, Nat.reduceBEq, Nat.reduceAdd, Nat.reduceSub, Nat.reduceMul, Nat.reduceLeDiff, Nat.reduceLT, Nat.reduceEqDiff, Int.reduceBEq, Int.reduceBNe, Int.reduceLT, Int.reduceLE, Int.reduceAdd, Int.reduceSub, Int.reduceMul, kAgg, scD, List.all_cons, List.all_nil]
  refine LoopVC.mk (Y := Nat) (fun k => k ≤ c.length) (fun k => ⟨[(0, .c (nums c)), (3, zv (bestTo C k).1), (4, nv k)], []⟩) (fun k => c.length - k) ⟨0, Enter.id ?_, by omega⟩ ?_
  · simp only [bestTo, nums, rowsS, nodes, zv, bv, sv, nv, VL, VB, BEq.rfl, V1, V2, V3, V4, V5, V6, V7, V8, V9, V10, V11, V12, VE, Nat.reduceBEq, Nat.reduceAdd, Nat.reduceSub, Nat.reduceMul, Nat.reduceLeDiff, Nat.reduceLT, Nat.reduceEqDiff, Int.reduceBEq, Int.reduceBNe, Int.reduceLT, Int.reduceLE, Int.reduceAdd, Int.reduceSub, Int.reduceMul, kAgg, scD, List.all_cons, List.all_nil]
    rfl
  intro k hk
  simp only [lt_nat, nums, rowsS, nodes, zv, bv, sv, nv, VL, VB, BEq.rfl, V1, V2, V3, V4, V5, V6, V7, V8, V9, V10, V11, V12, VE, Nat.reduceBEq, Nat.reduceAdd, Nat.reduceSub, Nat.reduceMul, Nat.reduceLeDiff, Nat.reduceLT, Nat.reduceEqDiff, Int.reduceBEq, Int.reduceBNe, Int.reduceLT, Int.reduceLE, Int.reduceAdd, Int.reduceSub, Int.reduceMul, kAgg, scD, List.all_cons, List.all_nil]
  refine guardB.mk (fun h => ?_) (fun h => ?_)
  · have hk' : k < c.length := by simpa using h
    clear h
    have hsucc := bestTo_succ C k
    have hCk : C k = c.getD k 0 := by rw [hC]
    have hck := hc k
    obtain ⟨x, hx⟩ : ∃ x, c.getD k 0 = x := ⟨_, rfl⟩
    obtain ⟨B, hB⟩ : ∃ B, bestTo C k = B := ⟨_, rfl⟩
    obtain ⟨l, f⟩ := B
    rw [hx] at hCk hck
    rw [hB, hCk] at hsucc
    simp only at hsucc
    have hlb : -1 ≤ l := by
      have := (bestTo_bd (c := C) (B := C k + 9223372036854775807) (by omega) k) 
      have h2 : ∀ j, -1 ≤ (bestTo C j).1 := fun j => by
        induction j with
        | zero => simp [bestTo]
        | succ j ih =>
          rw [bestTo_succ]
          split
          · have := hc j
            show -1 ≤ C j
            rw [hC]; exact this
          · exact ih
      have := h2 k
      rw [hB] at this; exact this
    have o1 : 0 ≤ (k : Int) ∧ k < c.length := ⟨Int.natCast_nonneg k, by omega⟩
    simp only [hB, getD_num c k hk', hx, num_def, nums, rowsS, nodes, zv, bv, sv, nv, VL, VB, BEq.rfl, V1, V2, V3, V4, V5, V6, V7, V8, V9, V10, V11, V12, VE, Nat.reduceBEq, Nat.reduceAdd, Nat.reduceSub, Nat.reduceMul, Nat.reduceLeDiff, Nat.reduceLT, Nat.reduceEqDiff, Int.reduceBEq, Int.reduceBNe, Int.reduceLT, Int.reduceLE, Int.reduceAdd, Int.reduceSub, Int.reduceMul, kAgg, scD, List.all_cons, List.all_nil]
    refine ⟨o1, ?_⟩
    refine guardB.mk (fun h => ?_) (fun h => ?_) <;> simp only [h, hB, getD_num c k hk', hx, num_def, nums, rowsS, nodes, zv, bv, sv, nv, VL, VB, BEq.rfl, V1, V2, V3, V4, V5, V6, V7, V8, V9, V10, V11, V12, VE, Nat.reduceBEq, Nat.reduceAdd, Nat.reduceSub, Nat.reduceMul, Nat.reduceLeDiff, Nat.reduceLT, Nat.reduceEqDiff, Int.reduceBEq, Int.reduceBNe, Int.reduceLT, Int.reduceLE, Int.reduceAdd, Int.reduceSub, Int.reduceMul, kAgg, scD, List.all_cons, List.all_nil]
    · have h1 : 0 ≤ x := by simpa using h
      clear h
      refine guardB.mk (fun h => ?_) (fun h => ?_) <;> simp only [h, hB, getD_num c k hk', hx, num_def, nums, rowsS, nodes, zv, bv, sv, nv, VL, VB, BEq.rfl, V1, V2, V3, V4, V5, V6, V7, V8, V9, V10, V11, V12, VE, Nat.reduceBEq, Nat.reduceAdd, Nat.reduceSub, Nat.reduceMul, Nat.reduceLeDiff, Nat.reduceLT, Nat.reduceEqDiff, Int.reduceBEq, Int.reduceBNe, Int.reduceLT, Int.reduceLE, Int.reduceAdd, Int.reduceSub, Int.reduceMul, kAgg, scD, List.all_cons, List.all_nil]
      · have h3 : l < 0 := by simpa using h
        rw [if_pos (by exact ⟨by omega, .inl (by omega)⟩)] at hsucc
        refine ⟨o1, ?_⟩
        simp only [wrap_nat (k := k) (by omega), nums, rowsS, nodes, zv, bv, sv, nv, VL, VB, BEq.rfl, V1, V2, V3, V4, V5, V6, V7, V8, V9, V10, V11, V12, VE, Nat.reduceBEq, Nat.reduceAdd, Nat.reduceSub, Nat.reduceMul, Nat.reduceLeDiff, Nat.reduceLT, Nat.reduceEqDiff, Int.reduceBEq, Int.reduceBNe, Int.reduceLT, Int.reduceLE, Int.reduceAdd, Int.reduceSub, Int.reduceMul, kAgg, scD, List.all_cons, List.all_nil]
        refine ⟨k + 1, Enter.id ?_, by omega, by show c.length - (k + 1) < c.length - k; omega⟩
        simp only [hsucc, nums, rowsS, nodes, zv, bv, sv, nv, VL, VB, BEq.rfl, V1, V2, V3, V4, V5, V6, V7, V8, V9, V10, V11, V12, VE, Nat.reduceBEq, Nat.reduceAdd, Nat.reduceSub, Nat.reduceMul, Nat.reduceLeDiff, Nat.reduceLT, Nat.reduceEqDiff, Int.reduceBEq, Int.reduceBNe, Int.reduceLT, Int.reduceLE, Int.reduceAdd, Int.reduceSub, Int.reduceMul, kAgg, scD, List.all_cons, List.all_nil]
      · have h3 : ¬ l < 0 := by simpa using h
        clear h
        refine ⟨o1, ?_⟩
        refine guardB.mk (fun h => ?_) (fun h => ?_) <;> simp only [h, hB, getD_num c k hk', hx, num_def, nums, rowsS, nodes, zv, bv, sv, nv, VL, VB, BEq.rfl, V1, V2, V3, V4, V5, V6, V7, V8, V9, V10, V11, V12, VE, Nat.reduceBEq, Nat.reduceAdd, Nat.reduceSub, Nat.reduceMul, Nat.reduceLeDiff, Nat.reduceLT, Nat.reduceEqDiff, Int.reduceBEq, Int.reduceBNe, Int.reduceLT, Int.reduceLE, Int.reduceAdd, Int.reduceSub, Int.reduceMul, kAgg, scD, List.all_cons, List.all_nil]
        · have h4 : x < l := by simpa using h
          rw [if_pos (by exact ⟨by omega, .inr h4⟩)] at hsucc
          refine ⟨o1, ?_⟩
          simp only [wrap_nat (k := k) (by omega), nums, rowsS, nodes, zv, bv, sv, nv, VL, VB, BEq.rfl, V1, V2, V3, V4, V5, V6, V7, V8, V9, V10, V11, V12, VE, Nat.reduceBEq, Nat.reduceAdd, Nat.reduceSub, Nat.reduceMul, Nat.reduceLeDiff, Nat.reduceLT, Nat.reduceEqDiff, Int.reduceBEq, Int.reduceBNe, Int.reduceLT, Int.reduceLE, Int.reduceAdd, Int.reduceSub, Int.reduceMul, kAgg, scD, List.all_cons, List.all_nil]
          refine ⟨k + 1, Enter.id ?_, by omega, by show c.length - (k + 1) < c.length - k; omega⟩
          simp only [hsucc, nums, rowsS, nodes, zv, bv, sv, nv, VL, VB, BEq.rfl, V1, V2, V3, V4, V5, V6, V7, V8, V9, V10, V11, V12, VE, Nat.reduceBEq, Nat.reduceAdd, Nat.reduceSub, Nat.reduceMul, Nat.reduceLeDiff, Nat.reduceLT, Nat.reduceEqDiff, Int.reduceBEq, Int.reduceBNe, Int.reduceLT, Int.reduceLE, Int.reduceAdd, Int.reduceSub, Int.reduceMul, kAgg, scD, List.all_cons, List.all_nil]
        · have h4 : ¬ x < l := by simpa using h
          rw [if_neg (by rintro ⟨_, e⟩; omega)] at hsucc
          simp only [wrap_nat (k := k) (by omega), nums, rowsS, nodes, zv, bv, sv, nv, VL, VB, BEq.rfl, V1, V2, V3, V4, V5, V6, V7, V8, V9, V10, V11, V12, VE, Nat.reduceBEq, Nat.reduceAdd, Nat.reduceSub, Nat.reduceMul, Nat.reduceLeDiff, Nat.reduceLT, Nat.reduceEqDiff, Int.reduceBEq, Int.reduceBNe, Int.reduceLT, Int.reduceLE, Int.reduceAdd, Int.reduceSub, Int.reduceMul, kAgg, scD, List.all_cons, List.all_nil]
          refine ⟨k + 1, Enter.id ?_, by omega, by show c.length - (k + 1) < c.length - k; omega⟩
          simp only [hsucc, nums, rowsS, nodes, zv, bv, sv, nv, VL, VB, BEq.rfl, V1, V2, V3, V4, V5, V6, V7, V8, V9, V10, V11, V12, VE, Nat.reduceBEq, Nat.reduceAdd, Nat.reduceSub, Nat.reduceMul, Nat.reduceLeDiff, Nat.reduceLT, Nat.reduceEqDiff, Int.reduceBEq, Int.reduceBNe, Int.reduceLT, Int.reduceLE, Int.reduceAdd, Int.reduceSub, Int.reduceMul, kAgg, scD, List.all_cons, List.all_nil]
    · have h1 : ¬ 0 ≤ x := by simpa using h
      rw [if_neg (by rintro ⟨e, _⟩; exact e (by omega))] at hsucc
      simp only [wrap_nat (k := k) (by omega), nums, rowsS, nodes, zv, bv, sv, nv, VL, VB, BEq.rfl, V1, V2, V3, V4, V5, V6, V7, V8, V9, V10, V11, V12, VE, Nat.reduceBEq, Nat.reduceAdd, Nat.reduceSub, Nat.reduceMul, Nat.reduceLeDiff, Nat.reduceLT, Nat.reduceEqDiff, Int.reduceBEq, Int.reduceBNe, Int.reduceLT, Int.reduceLE, Int.reduceAdd, Int.reduceSub, Int.reduceMul, kAgg, scD, List.all_cons, List.all_nil]
      refine ⟨k + 1, Enter.id ?_, by omega, by show c.length - (k + 1) < c.length - k; omega⟩
      simp only [hsucc, nums, rowsS, nodes, zv, bv, sv, nv, VL, VB, BEq.rfl, V1, V2, V3, V4, V5, V6, V7, V8, V9, V10, V11, V12, VE, Nat.reduceBEq, Nat.reduceAdd, Nat.reduceSub, Nat.reduceMul, Nat.reduceLeDiff, Nat.reduceLT, Nat.reduceEqDiff, Int.reduceBEq, Int.reduceBNe, Int.reduceLT, Int.reduceLE, Int.reduceAdd, Int.reduceSub, Int.reduceMul, kAgg, scD, List.all_cons, List.all_nil]
  · have hk' : k = c.length := by
      have : ¬ k < c.length := by simpa using h
      omega
    subst hk'
    simp only [nums, rowsS, nodes, zv, bv, sv, nv, VL, VB, BEq.rfl, V1, V2, V3, V4, V5, V6, V7, V8, V9, V10, V11, V12, VE, Nat.reduceBEq, Nat.reduceAdd, Nat.reduceSub, Nat.reduceMul, Nat.reduceLeDiff, Nat.reduceLT, Nat.reduceEqDiff, Int.reduceBEq, Int.reduceBNe, Int.reduceLT, Int.reduceLE, Int.reduceAdd, Int.reduceSub, Int.reduceMul, kAgg, scD, List.all_cons, List.all_nil]

theorem Good.small0 {t : List Node} {m : List (List Int)} {st : List Int} (g : Good t m st) : Ok Try.prog E 71 [.c (nums ((List.range m.length).map (solF t m st 0)))] (zv (rootP t m st).1) := by
  have h := smallest_ok ((List.range m.length).map (solF t m st 0)) (by have := g.mat.2.1; simpa using this) (fun s => by
    by_cases hs : s < m.length
    · rw [getD_rng _ hs]; exact (g.bd 0 s).1
    · rw [List.getD, List.getElem?_eq_none (by simp; omega)]; simp)
  rw [List.length_map, List.length_range, bestTo_congr (fun s hs => getD_rng (solF t m st 0) hs)] at h
  exact h

theorem rMin_ok (t : List Node) (m : List (List Int)) (st : List Int) (hs : Small t) : Ok Try.prog E 42 [.c (nodes t), .c (rowsS m), .c (nums st)] (.tp [zv (minV t m st), zv (errP t m st)]) := by
  refine ok_of_vc (L := []) (ts := [6, 7]) envOK mixed Try.func42 rfl (by kernel_rfl) rfl (by kernel_rfl) rfl fun hl => ?_
  simp only [Try.f42, minV, errP, nums, rowsS, nodes, zv, bv, sv, nv, VL, VB, BEq.rfl, V1, V2, V3, V4, V5, V6, V7, V8, V9, V10, V11, V12, VE, Nat.reduceBEq, Nat.reduceAdd, Nat.reduceSub, Nat.reduceMul, Nat.reduceLeDiff, Nat.reduceLT, Nat.reduceEqDiff, Int.reduceBEq, Int.reduceBNe, Int.reduceLT, Int.reduceLE, Int.reduceAdd, Int.reduceSub, Int.reduceMul, kAgg, scD, List.all_cons, List.all_nil]
  refine CallX.mk (rCheck_ok t m st hs) rfl ?_
  by_cases h : checkE t m st = 0
  · have g := good_of h
    have hn0 := g.n0
    have hb : -1 ≤ (rootP t m st).1 := (bestTo_bd (B := 62 * 1073741824) (by omega) _ fun s _ => g.bd 0 s).1
    simp only [h, if_pos, nums, rowsS, nodes, zv, bv, sv, nv, VL, VB, BEq.rfl, V1, V2, V3, V4, V5, V6, V7, V8, V9, V10, V11, V12, VE, Nat.reduceBEq, Nat.reduceAdd, Nat.reduceSub, Nat.reduceMul, Nat.reduceLeDiff, Nat.reduceLT, Nat.reduceEqDiff, Int.reduceBEq, Int.reduceBNe, Int.reduceLT, Int.reduceLE, Int.reduceAdd, Int.reduceSub, Int.reduceMul, kAgg, scD, List.all_cons, List.all_nil]
    refine CallX.mk (rTable_ok t m st hs h) rfl ?_
    simp only [getD_tabS hn0, tabS_len, nums, rowsS, nodes, zv, bv, sv, nv, VL, VB, BEq.rfl, V1, V2, V3, V4, V5, V6, V7, V8, V9, V10, V11, V12, VE, Nat.reduceBEq, Nat.reduceAdd, Nat.reduceSub, Nat.reduceMul, Nat.reduceLeDiff, Nat.reduceLT, Nat.reduceEqDiff, Int.reduceBEq, Int.reduceBNe, Int.reduceLT, Int.reduceLE, Int.reduceAdd, Int.reduceSub, Int.reduceMul, kAgg, scD, List.all_cons, List.all_nil]
    refine ⟨hn0, ?_⟩
    refine CallX.mk g.small0 rfl ?_
    simp only [nums, rowsS, nodes, zv, bv, sv, nv, VL, VB, BEq.rfl, V1, V2, V3, V4, V5, V6, V7, V8, V9, V10, V11, V12, VE, Nat.reduceBEq, Nat.reduceAdd, Nat.reduceSub, Nat.reduceMul, Nat.reduceLeDiff, Nat.reduceLT, Nat.reduceEqDiff, Int.reduceBEq, Int.reduceBNe, Int.reduceLT, Int.reduceLE, Int.reduceAdd, Int.reduceSub, Int.reduceMul, kAgg, scD, List.all_cons, List.all_nil]
    refine guardB.mk (fun h => ?_) (fun h => ?_) <;> simp only [h, nums, rowsS, nodes, zv, bv, sv, nv, VL, VB, BEq.rfl, V1, V2, V3, V4, V5, V6, V7, V8, V9, V10, V11, V12, VE, Nat.reduceBEq, Nat.reduceAdd, Nat.reduceSub, Nat.reduceMul, Nat.reduceLeDiff, Nat.reduceLT, Nat.reduceEqDiff, Int.reduceBEq, Int.reduceBNe, Int.reduceLT, Int.reduceLE, Int.reduceAdd, Int.reduceSub, Int.reduceMul, kAgg, scD, List.all_cons, List.all_nil]
    · have h1 : (rootP t m st).1 = -1 := by
        have : (rootP t m st).1 < 0 := by simpa using h
        omega
      simp only [h1, if_pos, nums, rowsS, nodes, zv, bv, sv, nv, VL, VB, BEq.rfl, V1, V2, V3, V4, V5, V6, V7, V8, V9, V10, V11, V12, VE, Nat.reduceBEq, Nat.reduceAdd, Nat.reduceSub, Nat.reduceMul, Nat.reduceLeDiff, Nat.reduceLT, Nat.reduceEqDiff, Int.reduceBEq, Int.reduceBNe, Int.reduceLT, Int.reduceLE, Int.reduceAdd, Int.reduceSub, Int.reduceMul, kAgg, scD, List.all_cons, List.all_nil]
      rfl
    · have h1 : (rootP t m st).1 ≠ -1 := by
        have : ¬ (rootP t m st).1 < 0 := by simpa using h
        omega
      simp only [h1, if_neg, if_pos, if_false, nums, rowsS, nodes, zv, bv, sv, nv, VL, VB, BEq.rfl, V1, V2, V3, V4, V5, V6, V7, V8, V9, V10, V11, V12, VE, Nat.reduceBEq, Nat.reduceAdd, Nat.reduceSub, Nat.reduceMul, Nat.reduceLeDiff, Nat.reduceLT, Nat.reduceEqDiff, Int.reduceBEq, Int.reduceBNe, Int.reduceLT, Int.reduceLE, Int.reduceAdd, Int.reduceSub, Int.reduceMul, kAgg, scD, List.all_cons, List.all_nil]
  · have h1 : (checkE t m st != 0) = true := by simpa using h
    simp only [h1, if_neg h, nums, rowsS, nodes, zv, bv, sv, nv, VL, VB, BEq.rfl, V1, V2, V3, V4, V5, V6, V7, V8, V9, V10, V11, V12, VE, Nat.reduceBEq, Nat.reduceAdd, Nat.reduceSub, Nat.reduceMul, Nat.reduceLeDiff, Nat.reduceLT, Nat.reduceEqDiff, Int.reduceBEq, Int.reduceBNe, Int.reduceLT, Int.reduceLE, Int.reduceAdd, Int.reduceSub, Int.reduceMul, kAgg, scD, List.all_cons, List.all_nil]

theorem rGiven_ok (t : List Node) (m : List (List Int)) (st : List Int) (r : Int) (hs : Small t) : Ok Try.prog E 44 [.c (nodes t), .c (rowsS m), .c (nums st), zv r] (.tp [zv (givenV t m st r), zv (errG t m st r)]) := by
  refine ok_of_vc (L := []) (ts := [8, 9]) envOK mixed Try.func44 rfl (by kernel_rfl) rfl (by kernel_rfl) rfl fun hl => ?_
  simp only [Try.f44, givenV, errG, nums, rowsS, nodes, zv, bv, sv, nv, VL, VB, BEq.rfl, V1, V2, V3, V4, V5, V6, V7, V8, V9, V10, V11, V12, VE, Nat.reduceBEq, Nat.reduceAdd, Nat.reduceSub, Nat.reduceMul, Nat.reduceLeDiff, Nat.reduceLT, Nat.reduceEqDiff, Int.reduceBEq, Int.reduceBNe, Int.reduceLT, Int.reduceLE, Int.reduceAdd, Int.reduceSub, Int.reduceMul, kAgg, scD, List.all_cons, List.all_nil]
  refine CallX.mk (rCheck_ok t m st hs) rfl ?_
  by_cases h : checkE t m st = 0
  · have hc := h
    have g := good_of h
    have hn0 := g.n0
    simp only [h, if_pos, nums, rowsS, nodes, zv, bv, sv, nv, VL, VB, BEq.rfl, V1, V2, V3, V4, V5, V6, V7, V8, V9, V10, V11, V12, VE, Nat.reduceBEq, Nat.reduceAdd, Nat.reduceSub, Nat.reduceMul, Nat.reduceLeDiff, Nat.reduceLT, Nat.reduceEqDiff, Int.reduceBEq, Int.reduceBNe, Int.reduceLT, Int.reduceLE, Int.reduceAdd, Int.reduceSub, Int.reduceMul, kAgg, scD, List.all_cons, List.all_nil]
    refine guardB.mk (fun h => ?_) (fun h => ?_) <;> simp only [h, nums, rowsS, nodes, zv, bv, sv, nv, VL, VB, BEq.rfl, V1, V2, V3, V4, V5, V6, V7, V8, V9, V10, V11, V12, VE, Nat.reduceBEq, Nat.reduceAdd, Nat.reduceSub, Nat.reduceMul, Nat.reduceLeDiff, Nat.reduceLT, Nat.reduceEqDiff, Int.reduceBEq, Int.reduceBNe, Int.reduceLT, Int.reduceLE, Int.reduceAdd, Int.reduceSub, Int.reduceMul, kAgg, scD, List.all_cons, List.all_nil]
    · have h1 : r < 0 := by simpa using h
      rw [if_pos (show r < 0 ∨ (m.length : Int) ≤ r by omega)]
      simp only [nums, rowsS, nodes, zv, bv, sv, nv, VL, VB, BEq.rfl, V1, V2, V3, V4, V5, V6, V7, V8, V9, V10, V11, V12, VE, Nat.reduceBEq, Nat.reduceAdd, Nat.reduceSub, Nat.reduceMul, Nat.reduceLeDiff, Nat.reduceLT, Nat.reduceEqDiff, Int.reduceBEq, Int.reduceBNe, Int.reduceLT, Int.reduceLE, Int.reduceAdd, Int.reduceSub, Int.reduceMul, kAgg, scD, List.all_cons, List.all_nil]
      rfl
    · have h1 : ¬ r < 0 := by simpa using h
      refine guardB.mk (fun h => ?_) (fun h => ?_) <;> simp only [h, nums, rowsS, nodes, zv, bv, sv, nv, VL, VB, BEq.rfl, V1, V2, V3, V4, V5, V6, V7, V8, V9, V10, V11, V12, VE, Nat.reduceBEq, Nat.reduceAdd, Nat.reduceSub, Nat.reduceMul, Nat.reduceLeDiff, Nat.reduceLT, Nat.reduceEqDiff, Int.reduceBEq, Int.reduceBNe, Int.reduceLT, Int.reduceLE, Int.reduceAdd, Int.reduceSub, Int.reduceMul, kAgg, scD, List.all_cons, List.all_nil]
      · have h2 : (m.length : Int) ≤ r := by simpa using h
        rw [if_pos (show r < 0 ∨ (m.length : Int) ≤ r by omega)]
        simp only [nums, rowsS, nodes, zv, bv, sv, nv, VL, VB, BEq.rfl, V1, V2, V3, V4, V5, V6, V7, V8, V9, V10, V11, V12, VE, Nat.reduceBEq, Nat.reduceAdd, Nat.reduceSub, Nat.reduceMul, Nat.reduceLeDiff, Nat.reduceLT, Nat.reduceEqDiff, Int.reduceBEq, Int.reduceBNe, Int.reduceLT, Int.reduceLE, Int.reduceAdd, Int.reduceSub, Int.reduceMul, kAgg, scD, List.all_cons, List.all_nil]
        rfl
      · have h2 : ¬ (m.length : Int) ≤ r := by simpa using h
        obtain ⟨k, rfl⟩ : ∃ k : Nat, r = k := ⟨r.toNat, by omega⟩
        have hk : k < m.length := by omega
        have hb := (g.bd 0 k).1
        rw [if_neg (show ¬ ((k : Int) < 0 ∨ (m.length : Int) ≤ (k : Int)) by omega)]
        refine CallX.mk (rTable_ok t m st hs hc) rfl ?_
        have hcell := getD_rng (solF t m st 0) hk
        obtain ⟨x, hx⟩ : ∃ x, solF t m st 0 k = x := ⟨_, rfl⟩
        simp only [getD_tabS hn0, tabS_len, getD_num ((List.range m.length).map (solF t m st 0)) k (by simpa using hk), hcell, hx, num_def, List.length_range, nums, rowsS, nodes, zv, bv, sv, nv, VL, VB, BEq.rfl, V1, V2, V3, V4, V5, V6, V7, V8, V9, V10, V11, V12, VE, Nat.reduceBEq, Nat.reduceAdd, Nat.reduceSub, Nat.reduceMul, Nat.reduceLeDiff, Nat.reduceLT, Nat.reduceEqDiff, Int.reduceBEq, Int.reduceBNe, Int.reduceLT, Int.reduceLE, Int.reduceAdd, Int.reduceSub, Int.reduceMul, kAgg, scD, List.all_cons, List.all_nil]
        rw [hx] at hb
        refine ⟨hn0, ⟨Int.natCast_nonneg k, hk⟩, ?_⟩
        refine guardB.mk (fun h => ?_) (fun h => ?_) <;> simp only [h, nums, rowsS, nodes, zv, bv, sv, nv, VL, VB, BEq.rfl, V1, V2, V3, V4, V5, V6, V7, V8, V9, V10, V11, V12, VE, Nat.reduceBEq, Nat.reduceAdd, Nat.reduceSub, Nat.reduceMul, Nat.reduceLeDiff, Nat.reduceLT, Nat.reduceEqDiff, Int.reduceBEq, Int.reduceBNe, Int.reduceLT, Int.reduceLE, Int.reduceAdd, Int.reduceSub, Int.reduceMul, kAgg, scD, List.all_cons, List.all_nil]
        · have h3 : x = -1 := by
            have : x < 0 := by simpa using h
            omega
          simp only [h3, if_pos, nums, rowsS, nodes, zv, bv, sv, nv, VL, VB, BEq.rfl, V1, V2, V3, V4, V5, V6, V7, V8, V9, V10, V11, V12, VE, Nat.reduceBEq, Nat.reduceAdd, Nat.reduceSub, Nat.reduceMul, Nat.reduceLeDiff, Nat.reduceLT, Nat.reduceEqDiff, Int.reduceBEq, Int.reduceBNe, Int.reduceLT, Int.reduceLE, Int.reduceAdd, Int.reduceSub, Int.reduceMul, kAgg, scD, List.all_cons, List.all_nil]
          rfl
        · have h3 : x ≠ -1 := by
            have : ¬ x < 0 := by simpa using h
            omega
          simp only [h3, if_neg, if_pos, if_false, nums, rowsS, nodes, zv, bv, sv, nv, VL, VB, BEq.rfl, V1, V2, V3, V4, V5, V6, V7, V8, V9, V10, V11, V12, VE, Nat.reduceBEq, Nat.reduceAdd, Nat.reduceSub, Nat.reduceMul, Nat.reduceLeDiff, Nat.reduceLT, Nat.reduceEqDiff, Int.reduceBEq, Int.reduceBNe, Int.reduceLT, Int.reduceLE, Int.reduceAdd, Int.reduceSub, Int.reduceMul, kAgg, scD, List.all_cons, List.all_nil]
  · have h1 : (checkE t m st != 0) = true := by simpa using h
    simp only [h1, if_neg h, nums, rowsS, nodes, zv, bv, sv, nv, VL, VB, BEq.rfl, V1, V2, V3, V4, V5, V6, V7, V8, V9, V10, V11, V12, VE, Nat.reduceBEq, Nat.reduceAdd, Nat.reduceSub, Nat.reduceMul, Nat.reduceLeDiff, Nat.reduceLT, Nat.reduceEqDiff, Int.reduceBEq, Int.reduceBNe, Int.reduceLT, Int.reduceLE, Int.reduceAdd, Int.reduceSub, Int.reduceMul, kAgg, scD, List.all_cons, List.all_nil]

theorem rRoots_ok (t : List Node) (m : List (List Int)) (st : List Int) (hs : Small t) : Ok Try.prog E 43 [.c (nodes t), .c (rowsS m), .c (nums st)] (.tp [.c (nums (rootsV t m st)), zv (errP t m st)]) := by
  refine ok_of_vc (L := []) (ts := [6, 7]) envOK mixed Try.func43 rfl (by kernel_rfl) rfl (by kernel_rfl) rfl fun hl => ?_
  simp only [Try.f43, rootsV, nums, rowsS, nodes, zv, bv, sv, nv, VL, VB, BEq.rfl, V1, V2, V3, V4, V5, V6, V7, V8, V9, V10, V11, V12, VE, Nat.reduceBEq, Nat.reduceAdd, Nat.reduceSub, Nat.reduceMul, Nat.reduceLeDiff, Nat.reduceLT, Nat.reduceEqDiff, Int.reduceBEq, Int.reduceBNe, Int.reduceLT, Int.reduceLE, Int.reduceAdd, Int.reduceSub, Int.reduceMul, kAgg, scD, List.all_cons, List.all_nil]
  refine CallX.mk (rMin_ok t m st hs) rfl ?_
  by_cases h : errP t m st = 0
  · have hc := (errP_zero h).1
    have g := good_of hc
    have hn0 := g.n0
    have hm12 := g.mat.2.1
    simp only [h, if_pos, minV, nums, rowsS, nodes, zv, bv, sv, nv, VL, VB, BEq.rfl, V1, V2, V3, V4, V5, V6, V7, V8, V9, V10, V11, V12, VE, Nat.reduceBEq, Nat.reduceAdd, Nat.reduceSub, Nat.reduceMul, Nat.reduceLeDiff, Nat.reduceLT, Nat.reduceEqDiff, Int.reduceBEq, Int.reduceBNe, Int.reduceLT, Int.reduceLE, Int.reduceAdd, Int.reduceSub, Int.reduceMul, kAgg, scD, List.all_cons, List.all_nil]
    refine CallX.mk (rTable_ok t m st hs hc) rfl ?_
    obtain ⟨F, hF⟩ : ∃ F, solF t m st = F := ⟨_, rfl⟩
    obtain ⟨x, hx⟩ : ∃ x, rootP t m st = x := ⟨_, rfl⟩
    obtain ⟨x, y⟩ := x
    simp only [hF, hx, getD_tabS hn0, tabS_len, nums, rowsS, nodes, zv, bv, sv, nv, VL, VB, BEq.rfl, V1, V2, V3, V4, V5, V6, V7, V8, V9, V10, V11, V12, VE, Nat.reduceBEq, Nat.reduceAdd, Nat.reduceSub, Nat.reduceMul, Nat.reduceLeDiff, Nat.reduceLT, Nat.reduceEqDiff, Int.reduceBEq, Int.reduceBNe, Int.reduceLT, Int.reduceLE, Int.reduceAdd, Int.reduceSub, Int.reduceMul, kAgg, scD, List.all_cons, List.all_nil]
    refine ⟨hn0, ?_⟩
    refine LoopVC.mk (Y := Nat) (fun k => k ≤ m.length) (fun k => ⟨[(8, zv x), (10, .c (nums ((List.range m.length).map (F 0)))), (11, .osl 1000 0), (12, nv k)], [(1000, .arr 3 0 ((rootsTo t m st k).map num))]⟩) (fun k => m.length - k) ⟨0, Enter.mk [(11, (1000, 3))] [] [] ?_, by omega⟩ ?_
    · simp only [nums, rowsS, nodes, zv, bv, sv, nv, VL, VB, BEq.rfl, V1, V2, V3, V4, V5, V6, V7, V8, V9, V10, V11, V12, VE, Nat.reduceBEq, Nat.reduceAdd, Nat.reduceSub, Nat.reduceMul, Nat.reduceLeDiff, Nat.reduceLT, Nat.reduceEqDiff, Int.reduceBEq, Int.reduceBNe, Int.reduceLT, Int.reduceLE, Int.reduceAdd, Int.reduceSub, Int.reduceMul, kAgg, scD, List.all_cons, List.all_nil]
      exact ⟨rfl, ⟨rfl, rfl⟩, rfl⟩
    intro k hk
    simp only [lt_nat, List.length_range, nums, rowsS, nodes, zv, bv, sv, nv, VL, VB, BEq.rfl, V1, V2, V3, V4, V5, V6, V7, V8, V9, V10, V11, V12, VE, Nat.reduceBEq, Nat.reduceAdd, Nat.reduceSub, Nat.reduceMul, Nat.reduceLeDiff, Nat.reduceLT, Nat.reduceEqDiff, Int.reduceBEq, Int.reduceBNe, Int.reduceLT, Int.reduceLE, Int.reduceAdd, Int.reduceSub, Int.reduceMul, kAgg, scD, List.all_cons, List.all_nil]
    refine guardB.mk (fun h => ?_) (fun h => ?_)
    · have hk' : k < m.length := by simpa using h
      clear h
      have hlt := rootsTo_len t m st k
      have hnum := rootsTo_nums t m st k
      rw [hF, hx] at hnum
      have hcell := getD_rng (F 0) hk'
      simp only [getD_num ((List.range m.length).map (F 0)) k (by simpa using hk'), hcell, num_def, List.length_range, int_beq, nums, rowsS, nodes, zv, bv, sv, nv, VL, VB, BEq.rfl, V1, V2, V3, V4, V5, V6, V7, V8, V9, V10, V11, V12, VE, Nat.reduceBEq, Nat.reduceAdd, Nat.reduceSub, Nat.reduceMul, Nat.reduceLeDiff, Nat.reduceLT, Nat.reduceEqDiff, Int.reduceBEq, Int.reduceBNe, Int.reduceLT, Int.reduceLE, Int.reduceAdd, Int.reduceSub, Int.reduceMul, kAgg, scD, List.all_cons, List.all_nil]
      refine ⟨⟨Int.natCast_nonneg k, hk'⟩, ?_⟩
      refine guardB.mk (fun h => ?_) (fun h => ?_) <;> simp only [h, wrap_nat (k := k) (by omega), nums, rowsS, nodes, zv, bv, sv, nv, VL, VB, BEq.rfl, V1, V2, V3, V4, V5, V6, V7, V8, V9, V10, V11, V12, VE, Nat.reduceBEq, Nat.reduceAdd, Nat.reduceSub, Nat.reduceMul, Nat.reduceLeDiff, Nat.reduceLT, Nat.reduceEqDiff, Int.reduceBEq, Int.reduceBNe, Int.reduceLT, Int.reduceLE, Int.reduceAdd, Int.reduceSub, Int.reduceMul, kAgg, scD, List.all_cons, List.all_nil]
      · have h : F 0 k = x := by simpa using h
        rw [if_pos h] at hnum
        refine ⟨⟨by omega, allLen_num [(k : Int)]⟩, k + 1, Enter.mk [] [] [] ?_, by omega, by show m.length - (k + 1) < m.length - k; omega⟩
        simp only [hnum, num_def, nums, rowsS, nodes, zv, bv, sv, nv, VL, VB, BEq.rfl, V1, V2, V3, V4, V5, V6, V7, V8, V9, V10, V11, V12, VE, Nat.reduceBEq, Nat.reduceAdd, Nat.reduceSub, Nat.reduceMul, Nat.reduceLeDiff, Nat.reduceLT, Nat.reduceEqDiff, Int.reduceBEq, Int.reduceBNe, Int.reduceLT, Int.reduceLE, Int.reduceAdd, Int.reduceSub, Int.reduceMul, kAgg, scD, List.all_cons, List.all_nil]
      · have h : ¬ F 0 k = x := by simpa using h
        rw [if_neg h] at hnum
        refine ⟨k + 1, Enter.mk [] [] [] ?_, by omega, by show m.length - (k + 1) < m.length - k; omega⟩
        simp only [hnum, nums, rowsS, nodes, zv, bv, sv, nv, VL, VB, BEq.rfl, V1, V2, V3, V4, V5, V6, V7, V8, V9, V10, V11, V12, VE, Nat.reduceBEq, Nat.reduceAdd, Nat.reduceSub, Nat.reduceMul, Nat.reduceLeDiff, Nat.reduceLT, Nat.reduceEqDiff, Int.reduceBEq, Int.reduceBNe, Int.reduceLT, Int.reduceLE, Int.reduceAdd, Int.reduceSub, Int.reduceMul, kAgg, scD, List.all_cons, List.all_nil]
    · have hk' : k = m.length := by
        have : ¬ k < m.length := by simpa using h
        omega
      subst hk'
      simp only [nums, rowsS, nodes, zv, bv, sv, nv, VL, VB, BEq.rfl, V1, V2, V3, V4, V5, V6, V7, V8, V9, V10, V11, V12, VE, Nat.reduceBEq, Nat.reduceAdd, Nat.reduceSub, Nat.reduceMul, Nat.reduceLeDiff, Nat.reduceLT, Nat.reduceEqDiff, Int.reduceBEq, Int.reduceBNe, Int.reduceLT, Int.reduceLE, Int.reduceAdd, Int.reduceSub, Int.reduceMul, kAgg, scD, List.all_cons, List.all_nil]
  · have h1 : (errP t m st != 0) = true := by simpa using h
    simp only [h1, if_neg h, nums, rowsS, nodes, zv, bv, sv, nv, VL, VB, BEq.rfl, V1, V2, V3, V4, V5, V6, V7, V8, V9, V10, V11, V12, VE, Nat.reduceBEq, Nat.reduceAdd, Nat.reduceSub, Nat.reduceMul, Nat.reduceLeDiff, Nat.reduceLT, Nat.reduceEqDiff, Int.reduceBEq, Int.reduceBNe, Int.reduceLT, Int.reduceLE, Int.reduceAdd, Int.reduceSub, Int.reduceMul, kAgg, scD, List.all_cons, List.all_nil]

end Go.Cp
end

section
set_option linter.unusedVariables false
set_option linter.unusedSimpArgs false
set_option maxHeartbeats 4000000
set_option maxRecDepth 10000
namespace Go.Cp
open Go Go.Proofs Go.Vx

/-- the first of the smallest is what it says -/
theorem bestTo_spec {c : Nat → Int} : ∀ {k : Nat}, (∀ s, s < k → -1 ≤ c s) → ((bestTo c k).1 = -1 ∧ ∀ s, s < k → c s = -1) ∨
    ∃ b : Nat, b < k ∧ (bestTo c k).2 = (b : Int) ∧ c b = (bestTo c k).1 ∧ 0 ≤ c b ∧ (∀ s, s < k → c s = -1 ∨ c b ≤ c s) ∧ ∀ s, s < b → c s ≠ c b
  | 0, _ => .inl ⟨rfl, fun s h => by omega⟩
  | k + 1, hc => by
    have hk := hc k (by omega)
    rw [bestTo_succ]
    rcases bestTo_spec (k := k) (fun s h => hc s (by omega)) with ⟨h1, h2⟩ | ⟨b, hb, hb2, hb1, hb0, hmin, hfst⟩
    · by_cases h : c k = -1
      · rw [if_neg (by rw [h]; simp)]
        refine .inl ⟨h1, fun s hs => ?_⟩
        rcases Nat.lt_succ_iff_lt_or_eq.1 hs with hs | hs
        · exact h2 s hs
        · rw [hs]; exact h
      · rw [if_pos ⟨h, .inl h1⟩]
        refine .inr ⟨k, by omega, rfl, rfl, by omega, fun s hs => ?_, fun s hs e => h (by rw [← e]; exact h2 s hs)⟩
        rcases Nat.lt_succ_iff_lt_or_eq.1 hs with hs | hs
        · exact .inl (h2 s hs)
        · rw [hs]; exact .inr (Int.le_refl _)
    · by_cases h : c k ≠ -1 ∧ ((bestTo c k).1 = -1 ∨ c k < (bestTo c k).1)
      · rw [if_pos h]
        have hlt : c k < c b := by
          rcases h.2 with e | e
          · omega
          · rw [hb1]; exact e
        refine .inr ⟨k, by omega, rfl, rfl, by omega, fun s hs => ?_, fun s hs e => ?_⟩
        · rcases Nat.lt_succ_iff_lt_or_eq.1 hs with hs | hs
          · rcases hmin s hs with e | e
            · exact .inl e
            · exact .inr (by omega)
          · rw [hs]; exact .inr (Int.le_refl _)
        · rcases hmin s hs with e' | e' <;> omega
      · rw [if_neg h]
        refine .inr ⟨b, by omega, hb2, hb1, hb0, fun s hs => ?_, hfst⟩
        rcases Nat.lt_succ_iff_lt_or_eq.1 hs with hs | hs
        · exact hmin s hs
        · subst hs
          by_cases e : c s = -1
          · exact .inl e
          · exact .inr (by
              have : ¬ ((bestTo c s).1 = -1 ∨ c s < (bestTo c s).1) := fun e' => h ⟨e, e'⟩
              omega)
theorem filter_first {p : Nat → Prop} [DecidablePred p] {b : Nat} (hb : p b) : ∀ {k : Nat}, b < k → (∀ s, s < b → ¬ p s) → ∃ r, (List.range k).filter (fun s => decide (p s)) = b :: r
  | 0, h, _ => by omega
  | k + 1, h, hf => by
    rw [List.range_succ, List.filter_append]
    rcases Nat.lt_succ_iff_lt_or_eq.1 h with h | h
    · obtain ⟨r, hr⟩ := filter_first hb h hf
      rw [hr]
      exact ⟨r ++ List.filter (fun s => decide (p s)) [k], rfl⟩
    · subst h
      have : (List.range b).filter (fun s => decide (p s)) = [] := by
        rw [List.filter_eq_nil_iff]
        intro a ha
        simpa using hf a (by simpa using ha)
      rw [this, List.nil_append, List.filter_cons_of_pos (by simpa using hb)]
      exact ⟨[], rfl⟩
theorem Good.rootB {t : List Node} {m : List (List Int)} {st : List Int} (g : Good t m st) (hr : (rootP t m st).1 ≠ -1) : ∃ b : Nat, b < m.length ∧ (rootP t m st).2 = (b : Int) ∧ solF t m st 0 b = (rootP t m st).1 ∧ 0 ≤ solF t m st 0 b ∧ (∀ s, s < m.length → solF t m st 0 s = -1 ∨ solF t m st 0 b ≤ solF t m st 0 s) ∧ ∀ s, s < b → solF t m st 0 s ≠ solF t m st 0 b := by
  rcases bestTo_spec (c := solF t m st 0) (k := m.length) (fun s _ => (g.bd 0 s).1) with ⟨h, _⟩ | h
  · exact absurd h hr
  · exact h
theorem Good.roots {t : List Node} {m : List (List Int)} {st : List Int} (g : Good t m st) (hr : (rootP t m st).1 ≠ -1) : ∃ r, rootsTo t m st m.length = (rootP t m st).2 :: r := by
  obtain ⟨b, h1, h2, h3, h4, h5, h6⟩ := g.rootB hr
  obtain ⟨r, hrr⟩ := filter_first (p := fun s => solF t m st 0 s = (rootP t m st).1) h3 h1 (fun s hs => by rw [← h3]; exact h6 s hs)
  rw [rootsTo, hrr, h2]
  exact ⟨_, rfl⟩
theorem stepF_m1 {m : List (List Int)} {F : Fn2} (hm : Mat m) (hF : ∀ v s, -1 ≤ F v s) (v a b : Nat) : -1 ≤ stepF m F v a b := by
  have h1 := hm.2.2.2 a b
  have h2 := hF v b
  rw [stepF]; split <;> omega
theorem Good.underB {t : List Node} {m : List (List Int)} {st : List Int} (g : Good t m st) {v a : Nat} (h : underF m (solF t m st) v a ≠ -1) : ∃ b : Nat, b < m.length ∧ (bestTo (stepF m (solF t m st) v a) m.length).2 = (b : Int) ∧ stepF m (solF t m st) v a b = underF m (solF t m st) v a ∧ 0 ≤ stepF m (solF t m st) v a b ∧
    (∀ s, s < m.length → stepF m (solF t m st) v a s = -1 ∨ stepF m (solF t m st) v a b ≤ stepF m (solF t m st) v a s) ∧ ∀ s, s < b → stepF m (solF t m st) v a s ≠ stepF m (solF t m st) v a b := by
  rcases bestTo_spec (c := stepF m (solF t m st) v a) (k := m.length) (fun s _ => stepF_m1 g.mat (fun v s => (g.bd v s).1) _ _ _) with ⟨h', _⟩ | h'
  · exact absurd h' h
  · exact h'

/-! the ways -/
abbrev finW (t : List Node) (m : List (List Int)) (F : Fn2) : FnW := wayF t m F (t.length - 1)
theorem way_keep {t : List Node} {m : List (List Int)} {F : Fn2} (hp : ∀ v, 0 < v → v < t.length → parN t v < v) {k u : Nat} (h : t.length - 1 - u ≤ k) (d : Nat) (hd : k + d ≤ t.length - 1) : wayF t m F (k + d) u = wayF t m F k u := by
  induction d with
  | zero => rfl
  | succ d ih =>
    have hp := hp (t.length - 1 - (k + d)) (by omega) (by omega)
    rw [← Nat.add_assoc, wayF, ← ih (by omega)]
    funext s
    rw [wayR, if_neg]
    rintro ⟨e, _⟩
    omega
theorem way_row {t : List Node} {m : List (List Int)} {F : Fn2} (hp : ∀ v, 0 < v → v < t.length → parN t v < v) {u k : Nat} (h : t.length - 1 - u ≤ k) (hk : k ≤ t.length - 1) : wayF t m F k u = finW t m F u := by
  have := way_keep (m := m) (F := F) hp h (t.length - 1 - k) (by omega)
  rw [← this, show k + (t.length - 1 - k) = t.length - 1 by omega]
theorem way_fold {t : List Node} {m : List (List Int)} {F : Fn2} (hp : ∀ v, 0 < v → v < t.length → parN t v < v) (u s : Nat) (hs : s < m.length) : ∀ k, k ≤ t.length - 1 →
    wayF t m F k u s = (List.range k).foldl (fun a k => if u = parN t (t.length - 1 - k) then a * swTo m F (t.length - 1 - k) s (finW t m F (t.length - 1 - k)) m.length else a) 1 := by
  intro k
  induction k with
  | zero => intro _; simp [wayF, way0, hs]
  | succ k ih =>
    intro hk
    rw [List.range_succ, List.foldl_append, ← ih (by omega)]
    simp only [List.foldl_cons, List.foldl_nil, wayF, wayR]
    by_cases h : u = parN t (t.length - 1 - k)
    · rw [if_pos ⟨h, hs⟩, if_pos h, ← h, way_row hp (u := t.length - 1 - k) (k := k) (by omega) (by omega)]
    · rw [if_neg (fun e => h e.1), if_neg h]
def accM (t : List Node) (v : Nat) (U : Nat → Nat) (k : Nat) : Nat := (List.range k).foldl (fun a w => if parOf t w = (v : Int) then a * U w else a) 1
theorem accM_succ (t : List Node) (v : Nat) (U : Nat → Nat) (k : Nat) : accM t v U (k + 1) = if parOf t k = (v : Int) then accM t v U k * U k else accM t v U k := by
  rw [accM, List.range_succ, List.foldl_append]; rfl
theorem accM_low {t : List Node} (ht : okTree t = true) {v : Nat} {U : Nat → Nat} : ∀ {k : Nat}, k ≤ v + 1 → k ≤ t.length → accM t v U k = 1
  | 0, _, _ => rfl
  | k + 1, h, hl => by
    rw [accM_succ, if_neg, accM_low ht (by omega) (by omega)]
    intro e
    by_cases h0 : k = 0
    · subst h0; rw [okTree_root ht] at e; omega
    · have := okTree_par ht (k := k) (by omega) (by omega)
      omega
theorem accM_fin {t : List Node} {m : List (List Int)} {F : Fn2} (ht : okTree t = true) (u s : Nat) (hs : s < m.length) : accM t u (fun w => swTo m F w s (finW t m F w) m.length) t.length = finW t m F u s := by
  have hn := okTree_len ht
  have hpp : ∀ v, 0 < v → v < t.length → parN t v < v ∧ parOf t v = (parN t v : Nat) := fun v h0 hv => by
    have := okTree_par ht hv h0
    rw [parN]; omega
  have hroot := okTree_root ht
  rw [finW, way_fold (fun v h0 hv => (hpp v h0 hv).1) u s hs _ (Nat.le_refl _)]
  have e1 : (List.range (t.length - 1)).foldl (fun a k => if u = parN t (t.length - 1 - k) then a * swTo m F (t.length - 1 - k) s (finW t m F (t.length - 1 - k)) m.length else a) 1 =
      ((List.range t.length).map fun k => t.length - 1 - k).foldl (fun a w => if parOf t w = (u : Int) then a * swTo m F w s (finW t m F w) m.length else a) 1 := by
    obtain ⟨n, hnn⟩ : ∃ n, t.length = n + 1 := ⟨t.length - 1, by omega⟩
    rw [List.foldl_map, hnn, List.range_succ, List.foldl_append]
    simp only [List.foldl_cons, List.foldl_nil, Nat.add_sub_cancel, Nat.sub_self, hroot]
    rw [if_neg (by omega)]
    refine foldl_same _ (fun a k hk => ?_) _
    have hk : k < n := by simpa using hk
    have := hpp (n - k) (by omega) (by omega)
    by_cases h : u = parN t (n - k)
    · rw [if_pos h, if_pos (by omega)]
    · rw [if_neg h, if_neg (by omega)]
  rw [e1, ← range_rev, accM]
  refine List.Perm.foldl_eq' (f := fun a w => if parOf t w = (u : Int) then a * swTo m F w s (finW t m F w) m.length else a) (List.reverse_perm _).symm (fun x _ y _ z => ?_) _
  split <;> split <;> first | rfl | (rw [Nat.mul_assoc, Nat.mul_assoc, Nat.mul_comm (swTo m F _ _ _ _)])

/-! the roots' sum -/
def sumW (w : Nat → Nat) (l : List Nat) : Nat := l.foldl (fun a s => a + w s) 0
theorem sumW_app (w : Nat → Nat) (l : List Nat) (x : Nat) : sumW w (l ++ [x]) = sumW w l + w x := by rw [sumW, List.foldl_append]; rfl
theorem cntTo_sum (c : Nat → Int) (x : Int) (w : Nat → Nat) : ∀ k, cntTo c x w k = sumW w ((List.range k).filter fun s => decide (c s = x))
  | 0 => rfl
  | k + 1 => by
    rw [cntTo_succ, cntTo_sum c x w k, List.range_succ, List.filter_append]
    by_cases h : c k = x
    · rw [if_pos h, List.filter_cons_of_pos (by simpa using h), List.filter_nil, sumW_app]
    · rw [if_neg h, List.filter_cons_of_neg (by simpa using h), List.filter_nil, List.append_nil, Nat.add_zero]

end Go.Cp
end

section
set_option linter.unusedVariables false
set_option linter.unusedSimpArgs false
set_option maxHeartbeats 4000000
set_option maxRecDepth 10000
namespace Go.Cp
open Go Go.Proofs Go.Vx

theorem rBest_ok (t : List Node) (m : List (List Int)) (st : List Int) (hs : Small t) : Ok Try.prog E 33 [.c (nodes t), .c (rowsS m), .c (nums st)] (.tp [.c (nums (bestV t m st)), zv (errP t m st)]) := by
  refine ok_of_vc (L := []) (ts := [6, 7]) envOK mixed Try.func33 rfl (by kernel_rfl) rfl (by kernel_rfl) rfl fun hl => ?_
  simp only [Try.f33, bestV, nums, rowsS, nodes, zv, bv, sv, nv, VL, VB, BEq.rfl, V1, V2, V3, V4, V5, V6, V7, V8, V9, V10, V11, V12, VE, Nat.reduceBEq, Nat.reduceAdd, Nat.reduceSub, Nat.reduceMul, Nat.reduceLeDiff, Nat.reduceLT, Nat.reduceEqDiff, Int.reduceBEq, Int.reduceBNe, Int.reduceLT, Int.reduceLE, Int.reduceAdd, Int.reduceSub, Int.reduceMul, kAgg, scD, List.all_cons, List.all_nil]
  refine CallX.mk (rRoots_ok t m st hs) rfl ?_
  by_cases h : errP t m st = 0
  · have hc := (errP_zero h).1
    have hr := (errP_zero h).2
    have g := good_of hc
    have hn0 := g.n0
    have hn63 := g.n63
    have hm12 := g.mat.2.1
    obtain ⟨rest, hrest⟩ := g.roots hr
    simp only [rootsV, hrest, h, if_pos, nums, rowsS, nodes, zv, bv, sv, nv, VL, VB, BEq.rfl, V1, V2, V3, V4, V5, V6, V7, V8, V9, V10, V11, V12, VE, Nat.reduceBEq, Nat.reduceAdd, Nat.reduceSub, Nat.reduceMul, Nat.reduceLeDiff, Nat.reduceLT, Nat.reduceEqDiff, Int.reduceBEq, Int.reduceBNe, Int.reduceLT, Int.reduceLE, Int.reduceAdd, Int.reduceSub, Int.reduceMul, kAgg, scD, List.all_cons, List.all_nil]
    refine CallX.mk (rTable_ok t m st hs hc) rfl ?_
    simp only [num_def, List.getD_cons_zero, nums, rowsS, nodes, zv, bv, sv, nv, VL, VB, BEq.rfl, V1, V2, V3, V4, V5, V6, V7, V8, V9, V10, V11, V12, VE, Nat.reduceBEq, Nat.reduceAdd, Nat.reduceSub, Nat.reduceMul, Nat.reduceLeDiff, Nat.reduceLT, Nat.reduceEqDiff, Int.reduceBEq, Int.reduceBNe, Int.reduceLT, Int.reduceLE, Int.reduceAdd, Int.reduceSub, Int.reduceMul, kAgg, scD, List.all_cons, List.all_nil]
    refine ⟨by omega, ?_⟩
    obtain ⟨F, hF⟩ : ∃ F, solF t m st = F := ⟨_, rfl⟩
    have hbd := g.bd
    have hub := g.under_bd
    have hunder := fun v a => g.underB (v := v) (a := a)
    have hchild := fun v a => g.child (v := v) (a := a)
    have hpick := pick_good g hr
    rw [hF] at hbd hub
    simp only [hF] at hunder hchild hpick
    have hnext : ∀ v, 0 < v → pickTo t m st (v + 1) = pickTo t m st v ++ [(bestTo (stepF m F v ((pickTo t m st v).getD (parN t v) 0).toNat) m.length).2] := fun v hv => by rw [pickTo, if_neg (by omega), hF]
    have hone : pickTo t m st 1 = [(rootP t m st).2] := by rw [pickTo, pickTo, if_pos rfl, List.nil_append]
    simp only [hF]
    refine LoopVC.mk (Y := Nat) (fun v => 1 ≤ v ∧ v ≤ t.length) (fun v => ⟨[(0, .c (nodes t)), (1, .c (rowsS m)), (10, .c (rowsS (tabS t.length m.length F))), (11, .osl 33 0), (12, nv v)], [(33, .arr 3 0 ((pickTo t m st v).map num))]⟩) (fun v => t.length - v) ⟨1, Enter.id ?_, by omega⟩ ?_
    · simp only [hone, num_def, nums, rowsS, nodes, zv, bv, sv, nv, VL, VB, BEq.rfl, V1, V2, V3, V4, V5, V6, V7, V8, V9, V10, V11, V12, VE, Nat.reduceBEq, Nat.reduceAdd, Nat.reduceSub, Nat.reduceMul, Nat.reduceLeDiff, Nat.reduceLT, Nat.reduceEqDiff, Int.reduceBEq, Int.reduceBNe, Int.reduceLT, Int.reduceLE, Int.reduceAdd, Int.reduceSub, Int.reduceMul, kAgg, scD, List.all_cons, List.all_nil]
      rfl
    rintro v ⟨hv1, hv⟩
    simp only [lt_nat, nums, rowsS, nodes, zv, bv, sv, nv, VL, VB, BEq.rfl, V1, V2, V3, V4, V5, V6, V7, V8, V9, V10, V11, V12, VE, Nat.reduceBEq, Nat.reduceAdd, Nat.reduceSub, Nat.reduceMul, Nat.reduceLeDiff, Nat.reduceLT, Nat.reduceEqDiff, Int.reduceBEq, Int.reduceBNe, Int.reduceLT, Int.reduceLE, Int.reduceAdd, Int.reduceSub, Int.reduceMul, kAgg, scD, List.all_cons, List.all_nil]
    refine guardB.mk (fun h => ?_) (fun h => ?_)
    · have hv' : v < t.length := by simpa using h
      clear h
      have hp := g.par v hv1 hv'
      have hx : (t.getD v Node.zero).parent = (parN t v : Int) := hp.2
      obtain ⟨a, ha1, ha2, ha3⟩ := hpick v hv (parN t v) hp.1
      have hnx := hnext v hv1
      rw [ha1, Int.toNat_natCast] at hnx
      have hpl := pickTo_len t m st v
      have hlt : parN t v < (pickTo t m st v).length := by omega
      simp only [getD_node t v hv', node_def, hx, getD_num (pickTo t m st v) (parN t v) hlt, ha1, num_def, getD_tabS hv', tabS_len, hpl, nums, rowsS, nodes, zv, bv, sv, nv, VL, VB, BEq.rfl, V1, V2, V3, V4, V5, V6, V7, V8, V9, V10, V11, V12, VE, Nat.reduceBEq, Nat.reduceAdd, Nat.reduceSub, Nat.reduceMul, Nat.reduceLeDiff, Nat.reduceLT, Nat.reduceEqDiff, Int.reduceBEq, Int.reduceBNe, Int.reduceLT, Int.reduceLE, Int.reduceAdd, Int.reduceSub, Int.reduceMul, kAgg, scD, List.all_cons, List.all_nil]
      refine ⟨⟨Int.natCast_nonneg v, hv'⟩, Int.natCast_nonneg _, hp.1, hp.1, ⟨Int.natCast_nonneg v, hv'⟩, ?_⟩
      refine CallX.mk (under_ok m ((List.range m.length).map (F v)) a (F v) g.mat ha2 (by simp) fun b hb => ⟨getD_rng _ hb, by have := hbd v b; omega⟩) rfl ?_
      have hue : (bestTo (fun b => if cellAt m a b = -1 ∨ F v b = -1 then -1 else cellAt m a b + F v b) m.length).1 = underF m F v a := rfl
      have hune := hchild v a hv1 hv' ha2 ha3
      obtain ⟨b0, hb1, hb2, hb3, hb4, hb5, hb6⟩ := hunder v a hune
      rw [hb2] at hnx
      rw [hue]
      simp only [nums, rowsS, nodes, zv, bv, sv, nv, VL, VB, BEq.rfl, V1, V2, V3, V4, V5, V6, V7, V8, V9, V10, V11, V12, VE, Nat.reduceBEq, Nat.reduceAdd, Nat.reduceSub, Nat.reduceMul, Nat.reduceLeDiff, Nat.reduceLT, Nat.reduceEqDiff, Int.reduceBEq, Int.reduceBNe, Int.reduceLT, Int.reduceLE, Int.reduceAdd, Int.reduceSub, Int.reduceMul, kAgg, scD, List.all_cons, List.all_nil]
      obtain ⟨u, hu⟩ : ∃ u, underF m F v a = u := ⟨_, rfl⟩
      rw [hu] at hb3
      simp only [hb3] at hb4 hb6
      simp only [hu]
      refine LoopVC.mk (Y := Nat) (fun k => k ≤ b0) (fun k => ⟨[(0, .c (nodes t)), (1, .c (rowsS m)), (10, .c (rowsS (tabS t.length m.length F))), (11, .osl 33 0), (12, nv v), (13, nv a), (14, zv u), (15, nv k)], [(33, .arr 3 0 ((pickTo t m st v).map num))]⟩) (fun k => b0 - k) ⟨0, Enter.id ?_, by omega⟩ ?_
      · simp only [nums, rowsS, nodes, zv, bv, sv, nv, VL, VB, BEq.rfl, V1, V2, V3, V4, V5, V6, V7, V8, V9, V10, V11, V12, VE, Nat.reduceBEq, Nat.reduceAdd, Nat.reduceSub, Nat.reduceMul, Nat.reduceLeDiff, Nat.reduceLT, Nat.reduceEqDiff, Int.reduceBEq, Int.reduceBNe, Int.reduceLT, Int.reduceLE, Int.reduceAdd, Int.reduceSub, Int.reduceMul, kAgg, scD, List.all_cons, List.all_nil]
        rfl
      intro k hk
      have hk' : k < m.length := by omega
      have hrow := g.mat.2.2.1 a ha2
      have hxb := g.mat.2.2.2 a k
      have hyb := hbd v k
      have hcell : (m.getD a []).getD k 0 = cellAt m a k := rfl
      have hcell2 := getD_rng (F v) hk'
      have hst : stepF m F v a k = if cellAt m a k = -1 ∨ F v k = -1 then -1 else cellAt m a k + F v k := rfl
      have hne := hb6 k
      have hbs := fun (h : k = b0) => h ▸ hb3
      obtain ⟨x, hx'⟩ : ∃ x, cellAt m a k = x := ⟨_, rfl⟩
      obtain ⟨y, hy'⟩ : ∃ y, F v k = y := ⟨_, rfl⟩
      rw [hx', hy'] at hst
      rw [hx'] at hxb hcell
      rw [hy'] at hyb hcell2
      have o1 : 0 ≤ (a : Int) ∧ a < m.length := ⟨Int.natCast_nonneg a, ha2⟩
      have o2 : 0 ≤ (k : Int) ∧ k < m.length := ⟨Int.natCast_nonneg k, hk'⟩
      have o3 : 0 ≤ (v : Int) ∧ v < t.length := ⟨Int.natCast_nonneg v, hv'⟩
      simp only [lt_nat, decide_eq_true hk', getD_rowS m a ha2, rowS_def, getD_num (m.getD a []) k (by omega), hcell, getD_tabS hv', getD_num ((List.range m.length).map (F v)) k (by simpa using hk'), hcell2, num_def, hrow, tabS_len, List.length_range, int_beq, nums, rowsS, nodes, zv, bv, sv, nv, VL, VB, BEq.rfl, V1, V2, V3, V4, V5, V6, V7, V8, V9, V10, V11, V12, VE, Nat.reduceBEq, Nat.reduceAdd, Nat.reduceSub, Nat.reduceMul, Nat.reduceLeDiff, Nat.reduceLT, Nat.reduceEqDiff, Int.reduceBEq, Int.reduceBNe, Int.reduceLT, Int.reduceLE, Int.reduceAdd, Int.reduceSub, Int.reduceMul, kAgg, scD, List.all_cons, List.all_nil]
      refine ⟨o1, o2, ?_⟩
      refine guardB.mk (fun h => ?_) (fun h => ?_) <;> simp only [h, lt_nat, decide_eq_true hk', getD_rowS m a ha2, rowS_def, getD_num (m.getD a []) k (by omega), hcell, getD_tabS hv', getD_num ((List.range m.length).map (F v)) k (by simpa using hk'), hcell2, num_def, hrow, tabS_len, List.length_range, int_beq, nums, rowsS, nodes, zv, bv, sv, nv, VL, VB, BEq.rfl, V1, V2, V3, V4, V5, V6, V7, V8, V9, V10, V11, V12, VE, Nat.reduceBEq, Nat.reduceAdd, Nat.reduceSub, Nat.reduceMul, Nat.reduceLeDiff, Nat.reduceLT, Nat.reduceEqDiff, Int.reduceBEq, Int.reduceBNe, Int.reduceLT, Int.reduceLE, Int.reduceAdd, Int.reduceSub, Int.reduceMul, kAgg, scD, List.all_cons, List.all_nil]
      · have h1 : 0 ≤ x := by simpa using h
        clear h
        refine ⟨o3, o2, ?_⟩
        refine guardB.mk (fun h => ?_) (fun h => ?_) <;> simp only [h, lt_nat, decide_eq_true hk', getD_rowS m a ha2, rowS_def, getD_num (m.getD a []) k (by omega), hcell, getD_tabS hv', getD_num ((List.range m.length).map (F v)) k (by simpa using hk'), hcell2, num_def, hrow, tabS_len, List.length_range, int_beq, nums, rowsS, nodes, zv, bv, sv, nv, VL, VB, BEq.rfl, V1, V2, V3, V4, V5, V6, V7, V8, V9, V10, V11, V12, VE, Nat.reduceBEq, Nat.reduceAdd, Nat.reduceSub, Nat.reduceMul, Nat.reduceLeDiff, Nat.reduceLT, Nat.reduceEqDiff, Int.reduceBEq, Int.reduceBNe, Int.reduceLT, Int.reduceLE, Int.reduceAdd, Int.reduceSub, Int.reduceMul, kAgg, scD, List.all_cons, List.all_nil]
        · have h2 : 0 ≤ y := by simpa using h
          clear h
          rw [if_neg (by omega)] at hst
          have hw : IntKind.i64.wrap (x + y) = x + y := wrap_in (by omega) (by omega)
          simp only [hw, lt_nat, decide_eq_true hk', getD_rowS m a ha2, rowS_def, getD_num (m.getD a []) k (by omega), hcell, getD_tabS hv', getD_num ((List.range m.length).map (F v)) k (by simpa using hk'), hcell2, num_def, hrow, tabS_len, List.length_range, int_beq, nums, rowsS, nodes, zv, bv, sv, nv, VL, VB, BEq.rfl, V1, V2, V3, V4, V5, V6, V7, V8, V9, V10, V11, V12, VE, Nat.reduceBEq, Nat.reduceAdd, Nat.reduceSub, Nat.reduceMul, Nat.reduceLeDiff, Nat.reduceLT, Nat.reduceEqDiff, Int.reduceBEq, Int.reduceBNe, Int.reduceLT, Int.reduceLE, Int.reduceAdd, Int.reduceSub, Int.reduceMul, kAgg, scD, List.all_cons, List.all_nil]
          refine ⟨o1, o2, o3, o2, ?_⟩
          refine guardB.mk (fun h => ?_) (fun h => ?_) <;> simp only [h, lt_nat, decide_eq_true hk', getD_rowS m a ha2, rowS_def, getD_num (m.getD a []) k (by omega), hcell, getD_tabS hv', getD_num ((List.range m.length).map (F v)) k (by simpa using hk'), hcell2, num_def, hrow, tabS_len, List.length_range, int_beq, nums, rowsS, nodes, zv, bv, sv, nv, VL, VB, BEq.rfl, V1, V2, V3, V4, V5, V6, V7, V8, V9, V10, V11, V12, VE, Nat.reduceBEq, Nat.reduceAdd, Nat.reduceSub, Nat.reduceMul, Nat.reduceLeDiff, Nat.reduceLT, Nat.reduceEqDiff, Int.reduceBEq, Int.reduceBNe, Int.reduceLT, Int.reduceLE, Int.reduceAdd, Int.reduceSub, Int.reduceMul, kAgg, scD, List.all_cons, List.all_nil]
          · have h3 : x + y = u := by simpa using h
            have hkb : k = b0 := by
              rcases Nat.lt_or_eq_of_le hk with e | e
              · exact absurd (by rw [hst]; exact h3) (hne e)
              · exact e
            subst hkb
            refine ⟨⟨by omega, allLen_num [(k : Int)]⟩, ?_⟩
            simp only [wrap_nat (k := v) (by omega), nums, rowsS, nodes, zv, bv, sv, nv, VL, VB, BEq.rfl, V1, V2, V3, V4, V5, V6, V7, V8, V9, V10, V11, V12, VE, Nat.reduceBEq, Nat.reduceAdd, Nat.reduceSub, Nat.reduceMul, Nat.reduceLeDiff, Nat.reduceLT, Nat.reduceEqDiff, Int.reduceBEq, Int.reduceBNe, Int.reduceLT, Int.reduceLE, Int.reduceAdd, Int.reduceSub, Int.reduceMul, kAgg, scD, List.all_cons, List.all_nil]
            refine ⟨v + 1, Enter.id ?_, by omega, by show t.length - (v + 1) < t.length - v; omega⟩
            simp only [hnx, List.map_append, num_def, nums, rowsS, nodes, zv, bv, sv, nv, VL, VB, BEq.rfl, V1, V2, V3, V4, V5, V6, V7, V8, V9, V10, V11, V12, VE, Nat.reduceBEq, Nat.reduceAdd, Nat.reduceSub, Nat.reduceMul, Nat.reduceLeDiff, Nat.reduceLT, Nat.reduceEqDiff, Int.reduceBEq, Int.reduceBNe, Int.reduceLT, Int.reduceLE, Int.reduceAdd, Int.reduceSub, Int.reduceMul, kAgg, scD, List.all_cons, List.all_nil]
          · have h3 : x + y ≠ u := by simpa using h
            have hkb : k < b0 := by
              rcases Nat.lt_or_eq_of_le hk with e | e
              · exact e
              · have := hbs e
                rw [hst] at this
                first | omega | (split at this <;> omega)
            simp only [wrap_nat (k := k) (by omega), nums, rowsS, nodes, zv, bv, sv, nv, VL, VB, BEq.rfl, V1, V2, V3, V4, V5, V6, V7, V8, V9, V10, V11, V12, VE, Nat.reduceBEq, Nat.reduceAdd, Nat.reduceSub, Nat.reduceMul, Nat.reduceLeDiff, Nat.reduceLT, Nat.reduceEqDiff, Int.reduceBEq, Int.reduceBNe, Int.reduceLT, Int.reduceLE, Int.reduceAdd, Int.reduceSub, Int.reduceMul, kAgg, scD, List.all_cons, List.all_nil]
            refine ⟨k + 1, Enter.id ?_, by omega, by show b0 - (k + 1) < b0 - k; omega⟩
            simp only [nums, rowsS, nodes, zv, bv, sv, nv, VL, VB, BEq.rfl, V1, V2, V3, V4, V5, V6, V7, V8, V9, V10, V11, V12, VE, Nat.reduceBEq, Nat.reduceAdd, Nat.reduceSub, Nat.reduceMul, Nat.reduceLeDiff, Nat.reduceLT, Nat.reduceEqDiff, Int.reduceBEq, Int.reduceBNe, Int.reduceLT, Int.reduceLE, Int.reduceAdd, Int.reduceSub, Int.reduceMul, kAgg, scD, List.all_cons, List.all_nil]
        · have h2 : ¬ 0 ≤ y := by simpa using h
          have hkb : k < b0 := by
            rcases Nat.lt_or_eq_of_le hk with e | e
            · exact e
            · have := hbs e
              rw [hst] at this
              first | omega | (split at this <;> omega)
          simp only [wrap_nat (k := k) (by omega), nums, rowsS, nodes, zv, bv, sv, nv, VL, VB, BEq.rfl, V1, V2, V3, V4, V5, V6, V7, V8, V9, V10, V11, V12, VE, Nat.reduceBEq, Nat.reduceAdd, Nat.reduceSub, Nat.reduceMul, Nat.reduceLeDiff, Nat.reduceLT, Nat.reduceEqDiff, Int.reduceBEq, Int.reduceBNe, Int.reduceLT, Int.reduceLE, Int.reduceAdd, Int.reduceSub, Int.reduceMul, kAgg, scD, List.all_cons, List.all_nil]
          refine ⟨k + 1, Enter.id ?_, by omega, by show b0 - (k + 1) < b0 - k; omega⟩
          simp only [nums, rowsS, nodes, zv, bv, sv, nv, VL, VB, BEq.rfl, V1, V2, V3, V4, V5, V6, V7, V8, V9, V10, V11, V12, VE, Nat.reduceBEq, Nat.reduceAdd, Nat.reduceSub, Nat.reduceMul, Nat.reduceLeDiff, Nat.reduceLT, Nat.reduceEqDiff, Int.reduceBEq, Int.reduceBNe, Int.reduceLT, Int.reduceLE, Int.reduceAdd, Int.reduceSub, Int.reduceMul, kAgg, scD, List.all_cons, List.all_nil]
      · have h1 : ¬ 0 ≤ x := by simpa using h
        have hkb : k < b0 := by
          rcases Nat.lt_or_eq_of_le hk with e | e
          · exact e
          · have := hbs e
            rw [hst] at this
            first | omega | (split at this <;> omega)
        simp only [wrap_nat (k := k) (by omega), nums, rowsS, nodes, zv, bv, sv, nv, VL, VB, BEq.rfl, V1, V2, V3, V4, V5, V6, V7, V8, V9, V10, V11, V12, VE, Nat.reduceBEq, Nat.reduceAdd, Nat.reduceSub, Nat.reduceMul, Nat.reduceLeDiff, Nat.reduceLT, Nat.reduceEqDiff, Int.reduceBEq, Int.reduceBNe, Int.reduceLT, Int.reduceLE, Int.reduceAdd, Int.reduceSub, Int.reduceMul, kAgg, scD, List.all_cons, List.all_nil]
        refine ⟨k + 1, Enter.id ?_, by omega, by show b0 - (k + 1) < b0 - k; omega⟩
        simp only [nums, rowsS, nodes, zv, bv, sv, nv, VL, VB, BEq.rfl, V1, V2, V3, V4, V5, V6, V7, V8, V9, V10, V11, V12, VE, Nat.reduceBEq, Nat.reduceAdd, Nat.reduceSub, Nat.reduceMul, Nat.reduceLeDiff, Nat.reduceLT, Nat.reduceEqDiff, Int.reduceBEq, Int.reduceBNe, Int.reduceLT, Int.reduceLE, Int.reduceAdd, Int.reduceSub, Int.reduceMul, kAgg, scD, List.all_cons, List.all_nil]
    · have hv' : v = t.length := by
        have : ¬ v < t.length := by simpa using h
        omega
      subst hv'
      simp only [nums, rowsS, nodes, zv, bv, sv, nv, VL, VB, BEq.rfl, V1, V2, V3, V4, V5, V6, V7, V8, V9, V10, V11, V12, VE, Nat.reduceBEq, Nat.reduceAdd, Nat.reduceSub, Nat.reduceMul, Nat.reduceLeDiff, Nat.reduceLT, Nat.reduceEqDiff, Int.reduceBEq, Int.reduceBNe, Int.reduceLT, Int.reduceLE, Int.reduceAdd, Int.reduceSub, Int.reduceMul, kAgg, scD, List.all_cons, List.all_nil]
  · have h1 : (errP t m st != 0) = true := by simpa using h
    simp only [h1, if_neg h, nums, rowsS, nodes, zv, bv, sv, nv, VL, VB, BEq.rfl, V1, V2, V3, V4, V5, V6, V7, V8, V9, V10, V11, V12, VE, Nat.reduceBEq, Nat.reduceAdd, Nat.reduceSub, Nat.reduceMul, Nat.reduceLeDiff, Nat.reduceLT, Nat.reduceEqDiff, Int.reduceBEq, Int.reduceBNe, Int.reduceLT, Int.reduceLE, Int.reduceAdd, Int.reduceSub, Int.reduceMul, kAgg, scD, List.all_cons, List.all_nil]

end Go.Cp
end

section
set_option linter.unusedVariables false
set_option linter.unusedSimpArgs false
set_option maxHeartbeats 4000000
set_option maxRecDepth 10000
namespace Go.Cp
open Go Go.Proofs Go.Vx

abbrev encF (W : FnW) : Fn2 := fun v s => encW (W v s)
theorem rways_ok (t : List Node) (m : List (List Int)) (st : List Int) (g : Good t m st) : Ok Try.prog E 68 [.c (nodes t), .c (rowsS m), .c (rowsS (tabS t.length m.length (solF t m st)))] (.c (rowsS (tabS t.length m.length (encF (finW t m (solF t m st)))))) := by
  have hn63 := g.n63
  have hm12 := g.mat.2.1
  have hm0 := g.mat.1
  refine ok_of_vc (L := []) (ts := [6]) envOK mixed Try.func68 rfl (by kernel_rfl) rfl (by kernel_rfl) rfl fun hl => ?_
  have hbd := g.bd
  have hub := g.under_bd
  have hfin := fun u s => accM_fin (m := m) (F := solF t m st) g.tree u s
  obtain ⟨F, hF⟩ : ∃ F, solF t m st = F := ⟨_, rfl⟩
  rw [hF] at hbd hub
  simp only [hF] at hfin ⊢
  obtain ⟨W, hW⟩ : ∃ W, finW t m F = W := ⟨_, rfl⟩
  simp only [hW] at hfin ⊢
  obtain ⟨Z, hZ⟩ : ∃ Z, encF W = Z := ⟨_, rfl⟩
  have hZe : ∀ v s, Z v s = encW (W v s) := fun v s => by rw [← hZ]
  simp only [hZ]
  simp only [Try.f68, nums, rowsS, nodes, zv, bv, sv, nv, VL, VB, BEq.rfl, V1, V2, V3, V4, V5, V6, V7, V8, V9, V10, V11, V12, VE, Nat.reduceBEq, Nat.reduceAdd, Nat.reduceSub, Nat.reduceMul, Nat.reduceLeDiff, Nat.reduceLT, Nat.reduceEqDiff, Int.reduceBEq, Int.reduceBNe, Int.reduceLT, Int.reduceLE, Int.reduceAdd, Int.reduceSub, Int.reduceMul, kAgg, scD, List.all_cons, List.all_nil]
  refine ⟨by omega, ?_⟩
  have hw0 : IntKind.i64.wrap ((t.length : Int) - 1) = (t.length : Int) - 1 := wrap_in (by omega) (by omega)
  simp only [hw0, nums, rowsS, nodes, zv, bv, sv, nv, VL, VB, BEq.rfl, V1, V2, V3, V4, V5, V6, V7, V8, V9, V10, V11, V12, VE, Nat.reduceBEq, Nat.reduceAdd, Nat.reduceSub, Nat.reduceMul, Nat.reduceLeDiff, Nat.reduceLT, Nat.reduceEqDiff, Int.reduceBEq, Int.reduceBNe, Int.reduceLT, Int.reduceLE, Int.reduceAdd, Int.reduceSub, Int.reduceMul, kAgg, scD, List.all_cons, List.all_nil]
  refine LoopVC.mk (Y := Nat) (fun c => c ≤ t.length) (fun c => ⟨[(0, .c (nodes t)), (1, .c (rowsS m)), (2, .c (rowsS (tabS t.length m.length F))), (7, .osl 17 0), (8, zv ((c : Int) - 1))], [(17, .nest 29 0 0 none ((nestT t.length m.length Z c 0).map (List.map num)))]⟩) (fun c => c) ⟨t.length, Enter.id ?_, Nat.le_refl _⟩ ?_
  · have e0 : List.replicate t.length ([] : List (List D)) = (nestT t.length m.length Z t.length 0).map (List.map num) := by rw [nestT_all]; simp
    simp only [e0, nums, rowsS, nodes, zv, bv, sv, nv, VL, VB, BEq.rfl, V1, V2, V3, V4, V5, V6, V7, V8, V9, V10, V11, V12, VE, Nat.reduceBEq, Nat.reduceAdd, Nat.reduceSub, Nat.reduceMul, Nat.reduceLeDiff, Nat.reduceLT, Nat.reduceEqDiff, Int.reduceBEq, Int.reduceBNe, Int.reduceLT, Int.reduceLE, Int.reduceAdd, Int.reduceSub, Int.reduceMul, kAgg, scD, List.all_cons, List.all_nil]
  intro c hcn
  have e1 : decide ((0 : Int) ≤ (c : Int) - 1) = decide (0 < c) := by congr 1; exact propext ⟨fun h => by omega, fun h => by omega⟩
  simp only [e1, nums, rowsS, nodes, zv, bv, sv, nv, VL, VB, BEq.rfl, V1, V2, V3, V4, V5, V6, V7, V8, V9, V10, V11, V12, VE, Nat.reduceBEq, Nat.reduceAdd, Nat.reduceSub, Nat.reduceMul, Nat.reduceLeDiff, Nat.reduceLT, Nat.reduceEqDiff, Int.reduceBEq, Int.reduceBNe, Int.reduceLT, Int.reduceLE, Int.reduceAdd, Int.reduceSub, Int.reduceMul, kAgg, scD, List.all_cons, List.all_nil]
  refine guardB.mk (fun h => ?_) (fun h => ?_)
  · have hc0 : 0 < c := by simpa using h
    clear h
    obtain ⟨v, rfl⟩ : ∃ v, c = v + 1 := ⟨c - 1, by omega⟩
    have hv : v < t.length := by omega
    have e2 : ((v + 1 : Nat) : Int) - 1 = (v : Int) := by omega
    simp only [e2, nums, rowsS, nodes, zv, bv, sv, nv, VL, VB, BEq.rfl, V1, V2, V3, V4, V5, V6, V7, V8, V9, V10, V11, V12, VE, Nat.reduceBEq, Nat.reduceAdd, Nat.reduceSub, Nat.reduceMul, Nat.reduceLeDiff, Nat.reduceLT, Nat.reduceEqDiff, Int.reduceBEq, Int.reduceBNe, Int.reduceLT, Int.reduceLE, Int.reduceAdd, Int.reduceSub, Int.reduceMul, kAgg, scD, List.all_cons, List.all_nil]
    refine LoopVC.mk (Y := Nat) (fun s => s ≤ m.length) (fun s => ⟨[(0, .c (nodes t)), (1, .c (rowsS m)), (2, .c (rowsS (tabS t.length m.length F))), (7, .osl 17 0), (8, nv v), (9, nv s)], [(17, .nest 29 0 0 none ((nestT t.length m.length Z (v + 1) s).map (List.map num)))]⟩) (fun s => m.length - s) ⟨0, Enter.id ?_, by omega⟩ ?_
    · simp only [nums, rowsS, nodes, zv, bv, sv, nv, VL, VB, BEq.rfl, V1, V2, V3, V4, V5, V6, V7, V8, V9, V10, V11, V12, VE, Nat.reduceBEq, Nat.reduceAdd, Nat.reduceSub, Nat.reduceMul, Nat.reduceLeDiff, Nat.reduceLT, Nat.reduceEqDiff, Int.reduceBEq, Int.reduceBNe, Int.reduceLT, Int.reduceLE, Int.reduceAdd, Int.reduceSub, Int.reduceMul, kAgg, scD, List.all_cons, List.all_nil]
      rfl
    intro s hsm
    simp only [lt_nat, nums, rowsS, nodes, zv, bv, sv, nv, VL, VB, BEq.rfl, V1, V2, V3, V4, V5, V6, V7, V8, V9, V10, V11, V12, VE, Nat.reduceBEq, Nat.reduceAdd, Nat.reduceSub, Nat.reduceMul, Nat.reduceLeDiff, Nat.reduceLT, Nat.reduceEqDiff, Int.reduceBEq, Int.reduceBNe, Int.reduceLT, Int.reduceLE, Int.reduceAdd, Int.reduceSub, Int.reduceMul, kAgg, scD, List.all_cons, List.all_nil]
    refine guardB.mk (fun h => ?_) (fun h => ?_)
    · have hs' : s < m.length := by simpa using h
      clear h
      obtain ⟨R, hR⟩ : ∃ R, (nestT t.length m.length Z (v + 1) s).map (List.map num) = R := ⟨_, rfl⟩
      have hRl : R.length = t.length := by rw [← hR, List.length_map, nestT_len]
      have hRv : R.getD v [] = ((List.range s).map (Z v)).map num := by rw [← hR, getD_rows, nestT_at hv]
      have hRw : ∀ w, v < w → w < t.length → R.getD w [] = ((List.range m.length).map (Z w)).map num := fun w h1 h2 => by rw [← hR, getD_rows, nestT_up h1 h2]
      have hRs : R.set v (((List.range s).map (Z v)).map num ++ [[.sc (.int .i64 (Z v s))]]) = (nestT t.length m.length Z (v + 1) (s + 1)).map (List.map num) := by
        rw [← hR, ← nestT_set hv, ← set_rows, List.map_append]; rfl
      simp only [hR]
      have hfin := hfin v s hs'
      have hlow : accM t v (fun w => swTo m F w s (W w) m.length) (v + 1) = 1 := accM_low g.tree (by omega) (by omega)
      have hstep := accM_succ t v (fun w => swTo m F w s (W w) m.length)
      obtain ⟨A, hA⟩ : ∃ A, accM t v (fun w => swTo m F w s (W w) m.length) = A := ⟨_, rfl⟩
      rw [hA] at hfin hlow hstep
      have hvw : IntKind.i64.wrap ((v : Int) + 1) = ((v + 1 : Nat) : Int) := wrap_nat (by omega)
      have hcrow := g.mat.2.2.1 s hs'
      refine LoopVC.mk (Y := Nat) (fun w => v < w ∧ w ≤ t.length) (fun w => ⟨[(0, .c (nodes t)), (1, .c (rowsS m)), (2, .c (rowsS (tabS t.length m.length F))), (7, .osl 17 0), (8, nv v), (9, nv s), (10, zv (encW (A w))), (11, nv w)], [(17, .nest 29 0 0 none R)]⟩) (fun w => t.length - w) ⟨v + 1, Enter.id ?_, by omega, by omega⟩ ?_
      · simp only [hlow, hvw, nums, rowsS, nodes, zv, bv, sv, nv, VL, VB, BEq.rfl, V1, V2, V3, V4, V5, V6, V7, V8, V9, V10, V11, V12, VE, Nat.reduceBEq, Nat.reduceAdd, Nat.reduceSub, Nat.reduceMul, Nat.reduceLeDiff, Nat.reduceLT, Nat.reduceEqDiff, Int.reduceBEq, Int.reduceBNe, Int.reduceLT, Int.reduceLE, Int.reduceAdd, Int.reduceSub, Int.reduceMul, kAgg, scD, List.all_cons, List.all_nil]
        rfl
      rintro w ⟨hvw', hw⟩
      simp only [lt_nat, nums, rowsS, nodes, zv, bv, sv, nv, VL, VB, BEq.rfl, V1, V2, V3, V4, V5, V6, V7, V8, V9, V10, V11, V12, VE, Nat.reduceBEq, Nat.reduceAdd, Nat.reduceSub, Nat.reduceMul, Nat.reduceLeDiff, Nat.reduceLT, Nat.reduceEqDiff, Int.reduceBEq, Int.reduceBNe, Int.reduceLT, Int.reduceLE, Int.reduceAdd, Int.reduceSub, Int.reduceMul, kAgg, scD, List.all_cons, List.all_nil]
      have hst := hstep w
      refine guardB.mk (fun h => ?_) (fun h => ?_)
      · have hw' : w < t.length := by simpa using h
        clear h
        have hx : (t.getD w Node.zero).parent = parOf t w := rfl
        have eb : (parOf t w != (v : Int)) = !decide (parOf t w = (v : Int)) := by rw [bne, int_beq]
        simp only [getD_node t w hw', node_def, hx, eb, nums, rowsS, nodes, zv, bv, sv, nv, VL, VB, BEq.rfl, V1, V2, V3, V4, V5, V6, V7, V8, V9, V10, V11, V12, VE, Nat.reduceBEq, Nat.reduceAdd, Nat.reduceSub, Nat.reduceMul, Nat.reduceLeDiff, Nat.reduceLT, Nat.reduceEqDiff, Int.reduceBEq, Int.reduceBNe, Int.reduceLT, Int.reduceLE, Int.reduceAdd, Int.reduceSub, Int.reduceMul, kAgg, scD, List.all_cons, List.all_nil]
        refine ⟨⟨Int.natCast_nonneg w, hw'⟩, ?_⟩
        by_cases hp : parOf t w = (v : Int)
        · rw [if_pos hp] at hst
          have hrw := hRw w hvw' hw'
          have o3 : 0 ≤ (w : Int) ∧ w < t.length := ⟨Int.natCast_nonneg w, hw'⟩
          simp only [hp, getD_tabS hw', tabS_len, nums, rowsS, nodes, zv, bv, sv, nv, VL, VB, BEq.rfl, V1, V2, V3, V4, V5, V6, V7, V8, V9, V10, V11, V12, VE, Nat.reduceBEq, Nat.reduceAdd, Nat.reduceSub, Nat.reduceMul, Nat.reduceLeDiff, Nat.reduceLT, Nat.reduceEqDiff, Int.reduceBEq, Int.reduceBNe, Int.reduceLT, Int.reduceLE, Int.reduceAdd, Int.reduceSub, Int.reduceMul, kAgg, scD, List.all_cons, List.all_nil]
          refine ⟨o3, ?_⟩
          refine CallX.mk (under_ok m ((List.range m.length).map (F w)) s (F w) g.mat hs' (by simp) fun b hb => ⟨getD_rng _ hb, by have := hbd w b; omega⟩) rfl ?_
          have hue : (bestTo (fun b => if cellAt m s b = -1 ∨ F w b = -1 then -1 else cellAt m s b + F w b) m.length).1 = underF m F w s := rfl
          have hu := hub w s
          have hsw := swTo_succ m F w s (W w)
          have hib : ∀ k, isBest m F w s k ↔ underF m F w s ≠ -1 ∧ stepF m F w s k = underF m F w s := fun k => Iff.rfl
          obtain ⟨u, hu2⟩ : ∃ u, underF m F w s = u := ⟨_, rfl⟩
          obtain ⟨B, hB⟩ : ∃ B, swTo m F w s (W w) = B := ⟨_, rfl⟩
          rw [hB] at hst hsw
          simp only [hu2] at hu hib
          simp only [hue, hu2, nums, rowsS, nodes, zv, bv, sv, nv, VL, VB, BEq.rfl, V1, V2, V3, V4, V5, V6, V7, V8, V9, V10, V11, V12, VE, Nat.reduceBEq, Nat.reduceAdd, Nat.reduceSub, Nat.reduceMul, Nat.reduceLeDiff, Nat.reduceLT, Nat.reduceEqDiff, Int.reduceBEq, Int.reduceBNe, Int.reduceLT, Int.reduceLE, Int.reduceAdd, Int.reduceSub, Int.reduceMul, kAgg, scD, List.all_cons, List.all_nil]
          refine LoopVC.mk (Y := Nat) (fun k => k ≤ m.length) (fun k => ⟨[(0, .c (nodes t)), (1, .c (rowsS m)), (2, .c (rowsS (tabS t.length m.length F))), (7, .osl 17 0), (8, nv v), (9, nv s), (10, zv (encW (A w))), (11, nv w), (12, zv u), (13, zv (encW (B k))), (14, nv k)], [(17, .nest 29 0 0 none R)]⟩) (fun k => m.length - k) ⟨0, Enter.id ?_, by omega⟩ ?_
          · have hB0 : B 0 = 0 := by rw [← hB]; rfl
            simp only [hB0, nums, rowsS, nodes, zv, bv, sv, nv, VL, VB, BEq.rfl, V1, V2, V3, V4, V5, V6, V7, V8, V9, V10, V11, V12, VE, Nat.reduceBEq, Nat.reduceAdd, Nat.reduceSub, Nat.reduceMul, Nat.reduceLeDiff, Nat.reduceLT, Nat.reduceEqDiff, Int.reduceBEq, Int.reduceBNe, Int.reduceLT, Int.reduceLE, Int.reduceAdd, Int.reduceSub, Int.reduceMul, kAgg, scD, List.all_cons, List.all_nil]
            exact ⟨rfl, rfl⟩
          intro k hk
          simp only [lt_nat, nums, rowsS, nodes, zv, bv, sv, nv, VL, VB, BEq.rfl, V1, V2, V3, V4, V5, V6, V7, V8, V9, V10, V11, V12, VE, Nat.reduceBEq, Nat.reduceAdd, Nat.reduceSub, Nat.reduceMul, Nat.reduceLeDiff, Nat.reduceLT, Nat.reduceEqDiff, Int.reduceBEq, Int.reduceBNe, Int.reduceLT, Int.reduceLE, Int.reduceAdd, Int.reduceSub, Int.reduceMul, kAgg, scD, List.all_cons, List.all_nil]
          refine guardB.mk (fun h => ?_) (fun h => ?_)
          · have hk' : k < m.length := by simpa using h
            clear h
            have hxb := g.mat.2.2.2 s k
            have hyb := hbd w k
            have hcell : (m.getD s []).getD k 0 = cellAt m s k := rfl
            have hcell2 := getD_rng (F w) hk'
            have hcell3 := getD_rng (Z w) hk'
            have hst2 : stepF m F w s k = if cellAt m s k = -1 ∨ F w k = -1 then -1 else cellAt m s k + F w k := rfl
            have hib := hib k
            have hsw := hsw k
            obtain ⟨x, hx'⟩ : ∃ x, cellAt m s k = x := ⟨_, rfl⟩
            obtain ⟨y, hy'⟩ : ∃ y, F w k = y := ⟨_, rfl⟩
            rw [hx', hy'] at hst2
            rw [hst2] at hib
            rw [hx'] at hxb hcell
            rw [hy'] at hyb hcell2
            have o1 : 0 ≤ (s : Int) ∧ s < m.length := ⟨Int.natCast_nonneg s, hs'⟩
            have o2 : 0 ≤ (k : Int) ∧ k < m.length := ⟨Int.natCast_nonneg k, hk'⟩
            simp only [getD_rowS m s hs', rowS_def, getD_num (m.getD s []) k (by omega), hcell, getD_tabS hw', getD_num ((List.range m.length).map (F w)) k (by simpa using hk'), hcell2, num_def, hcrow, tabS_len, List.length_range, int_beq, nums, rowsS, nodes, zv, bv, sv, nv, VL, VB, BEq.rfl, V1, V2, V3, V4, V5, V6, V7, V8, V9, V10, V11, V12, VE, Nat.reduceBEq, Nat.reduceAdd, Nat.reduceSub, Nat.reduceMul, Nat.reduceLeDiff, Nat.reduceLT, Nat.reduceEqDiff, Int.reduceBEq, Int.reduceBNe, Int.reduceLT, Int.reduceLE, Int.reduceAdd, Int.reduceSub, Int.reduceMul, kAgg, scD, List.all_cons, List.all_nil]
            refine ⟨o1, o2, ?_⟩
            refine guardB.mk (fun h => ?_) (fun h => ?_) <;> simp only [h, getD_rowS m s hs', rowS_def, getD_num (m.getD s []) k (by omega), hcell, getD_tabS hw', getD_num ((List.range m.length).map (F w)) k (by simpa using hk'), hcell2, num_def, hcrow, tabS_len, List.length_range, int_beq, nums, rowsS, nodes, zv, bv, sv, nv, VL, VB, BEq.rfl, V1, V2, V3, V4, V5, V6, V7, V8, V9, V10, V11, V12, VE, Nat.reduceBEq, Nat.reduceAdd, Nat.reduceSub, Nat.reduceMul, Nat.reduceLeDiff, Nat.reduceLT, Nat.reduceEqDiff, Int.reduceBEq, Int.reduceBNe, Int.reduceLT, Int.reduceLE, Int.reduceAdd, Int.reduceSub, Int.reduceMul, kAgg, scD, List.all_cons, List.all_nil]
            · have h1 : 0 ≤ x := by simpa using h
              clear h
              refine ⟨o3, o2, ?_⟩
              refine guardB.mk (fun h => ?_) (fun h => ?_) <;> simp only [h, getD_rowS m s hs', rowS_def, getD_num (m.getD s []) k (by omega), hcell, getD_tabS hw', getD_num ((List.range m.length).map (F w)) k (by simpa using hk'), hcell2, num_def, hcrow, tabS_len, List.length_range, int_beq, nums, rowsS, nodes, zv, bv, sv, nv, VL, VB, BEq.rfl, V1, V2, V3, V4, V5, V6, V7, V8, V9, V10, V11, V12, VE, Nat.reduceBEq, Nat.reduceAdd, Nat.reduceSub, Nat.reduceMul, Nat.reduceLeDiff, Nat.reduceLT, Nat.reduceEqDiff, Int.reduceBEq, Int.reduceBNe, Int.reduceLT, Int.reduceLE, Int.reduceAdd, Int.reduceSub, Int.reduceMul, kAgg, scD, List.all_cons, List.all_nil]
              · have h2 : 0 ≤ y := by simpa using h
                clear h
                rw [if_neg (by omega)] at hib
                have hwr : IntKind.i64.wrap (x + y) = x + y := wrap_in (by omega) (by omega)
                simp only [hwr, getD_rowS m s hs', rowS_def, getD_num (m.getD s []) k (by omega), hcell, getD_tabS hw', getD_num ((List.range m.length).map (F w)) k (by simpa using hk'), hcell2, num_def, hcrow, tabS_len, List.length_range, int_beq, nums, rowsS, nodes, zv, bv, sv, nv, VL, VB, BEq.rfl, V1, V2, V3, V4, V5, V6, V7, V8, V9, V10, V11, V12, VE, Nat.reduceBEq, Nat.reduceAdd, Nat.reduceSub, Nat.reduceMul, Nat.reduceLeDiff, Nat.reduceLT, Nat.reduceEqDiff, Int.reduceBEq, Int.reduceBNe, Int.reduceLT, Int.reduceLE, Int.reduceAdd, Int.reduceSub, Int.reduceMul, kAgg, scD, List.all_cons, List.all_nil]
                refine ⟨o1, o2, o3, o2, ?_⟩
                refine guardB.mk (fun h => ?_) (fun h => ?_) <;> simp only [h, getD_rowS m s hs', rowS_def, getD_num (m.getD s []) k (by omega), hcell, getD_tabS hw', getD_num ((List.range m.length).map (F w)) k (by simpa using hk'), hcell2, num_def, hcrow, tabS_len, List.length_range, int_beq, nums, rowsS, nodes, zv, bv, sv, nv, VL, VB, BEq.rfl, V1, V2, V3, V4, V5, V6, V7, V8, V9, V10, V11, V12, VE, Nat.reduceBEq, Nat.reduceAdd, Nat.reduceSub, Nat.reduceMul, Nat.reduceLeDiff, Nat.reduceLT, Nat.reduceEqDiff, Int.reduceBEq, Int.reduceBNe, Int.reduceLT, Int.reduceLE, Int.reduceAdd, Int.reduceSub, Int.reduceMul, kAgg, scD, List.all_cons, List.all_nil]
                · have h3 : x + y = u := by simpa using h
                  rw [if_pos (hib.2 ⟨by omega, h3⟩)] at hsw
                  simp only [hRl, hrw, getD_num ((List.range m.length).map (Z w)) k (by simpa using hk'), hcell3, hZe, num_def, List.length_range, nums, rowsS, nodes, zv, bv, sv, nv, VL, VB, BEq.rfl, V1, V2, V3, V4, V5, V6, V7, V8, V9, V10, V11, V12, VE, Nat.reduceBEq, Nat.reduceAdd, Nat.reduceSub, Nat.reduceMul, Nat.reduceLeDiff, Nat.reduceLT, Nat.reduceEqDiff, Int.reduceBEq, Int.reduceBNe, Int.reduceLT, Int.reduceLE, Int.reduceAdd, Int.reduceSub, Int.reduceMul, kAgg, scD, List.all_cons, List.all_nil]
                  refine ⟨o3.1, o3.2, o3.2, o2.1, o2.2, o2.2, ?_⟩
                  refine CallX.mk (Plus_ok (B k) (W w k)) rfl ?_
                  simp only [← hsw, wrap_nat (k := k) (by omega), nums, rowsS, nodes, zv, bv, sv, nv, VL, VB, BEq.rfl, V1, V2, V3, V4, V5, V6, V7, V8, V9, V10, V11, V12, VE, Nat.reduceBEq, Nat.reduceAdd, Nat.reduceSub, Nat.reduceMul, Nat.reduceLeDiff, Nat.reduceLT, Nat.reduceEqDiff, Int.reduceBEq, Int.reduceBNe, Int.reduceLT, Int.reduceLE, Int.reduceAdd, Int.reduceSub, Int.reduceMul, kAgg, scD, List.all_cons, List.all_nil]
                  refine ⟨k + 1, Enter.id ?_, by omega, by show m.length - (k + 1) < m.length - k; omega⟩
                  simp only [nums, rowsS, nodes, zv, bv, sv, nv, VL, VB, BEq.rfl, V1, V2, V3, V4, V5, V6, V7, V8, V9, V10, V11, V12, VE, Nat.reduceBEq, Nat.reduceAdd, Nat.reduceSub, Nat.reduceMul, Nat.reduceLeDiff, Nat.reduceLT, Nat.reduceEqDiff, Int.reduceBEq, Int.reduceBNe, Int.reduceLT, Int.reduceLE, Int.reduceAdd, Int.reduceSub, Int.reduceMul, kAgg, scD, List.all_cons, List.all_nil]
                · have h3 : x + y ≠ u := by simpa using h
                  have hnb : ¬ isBest m F w s k := by rw [hib]; rintro ⟨e1, e2⟩; first | omega | (split at e2 <;> omega)
                  rw [if_neg hnb, Nat.add_zero] at hsw
                  simp only [wrap_nat (k := k) (by omega), nums, rowsS, nodes, zv, bv, sv, nv, VL, VB, BEq.rfl, V1, V2, V3, V4, V5, V6, V7, V8, V9, V10, V11, V12, VE, Nat.reduceBEq, Nat.reduceAdd, Nat.reduceSub, Nat.reduceMul, Nat.reduceLeDiff, Nat.reduceLT, Nat.reduceEqDiff, Int.reduceBEq, Int.reduceBNe, Int.reduceLT, Int.reduceLE, Int.reduceAdd, Int.reduceSub, Int.reduceMul, kAgg, scD, List.all_cons, List.all_nil]
                  refine ⟨k + 1, Enter.id ?_, by omega, by show m.length - (k + 1) < m.length - k; omega⟩
                  simp only [hsw, nums, rowsS, nodes, zv, bv, sv, nv, VL, VB, BEq.rfl, V1, V2, V3, V4, V5, V6, V7, V8, V9, V10, V11, V12, VE, Nat.reduceBEq, Nat.reduceAdd, Nat.reduceSub, Nat.reduceMul, Nat.reduceLeDiff, Nat.reduceLT, Nat.reduceEqDiff, Int.reduceBEq, Int.reduceBNe, Int.reduceLT, Int.reduceLE, Int.reduceAdd, Int.reduceSub, Int.reduceMul, kAgg, scD, List.all_cons, List.all_nil]
              · have h2 : ¬ 0 ≤ y := by simpa using h
                have hnb : ¬ isBest m F w s k := by rw [hib]; rintro ⟨e1, e2⟩; first | omega | (split at e2 <;> omega)
                rw [if_neg hnb, Nat.add_zero] at hsw
                simp only [wrap_nat (k := k) (by omega), nums, rowsS, nodes, zv, bv, sv, nv, VL, VB, BEq.rfl, V1, V2, V3, V4, V5, V6, V7, V8, V9, V10, V11, V12, VE, Nat.reduceBEq, Nat.reduceAdd, Nat.reduceSub, Nat.reduceMul, Nat.reduceLeDiff, Nat.reduceLT, Nat.reduceEqDiff, Int.reduceBEq, Int.reduceBNe, Int.reduceLT, Int.reduceLE, Int.reduceAdd, Int.reduceSub, Int.reduceMul, kAgg, scD, List.all_cons, List.all_nil]
                refine ⟨k + 1, Enter.id ?_, by omega, by show m.length - (k + 1) < m.length - k; omega⟩
                simp only [hsw, nums, rowsS, nodes, zv, bv, sv, nv, VL, VB, BEq.rfl, V1, V2, V3, V4, V5, V6, V7, V8, V9, V10, V11, V12, VE, Nat.reduceBEq, Nat.reduceAdd, Nat.reduceSub, Nat.reduceMul, Nat.reduceLeDiff, Nat.reduceLT, Nat.reduceEqDiff, Int.reduceBEq, Int.reduceBNe, Int.reduceLT, Int.reduceLE, Int.reduceAdd, Int.reduceSub, Int.reduceMul, kAgg, scD, List.all_cons, List.all_nil]
            · have h1 : ¬ 0 ≤ x := by simpa using h
              have hnb : ¬ isBest m F w s k := by rw [hib]; rintro ⟨e1, e2⟩; first | omega | (split at e2 <;> omega)
              rw [if_neg hnb, Nat.add_zero] at hsw
              simp only [wrap_nat (k := k) (by omega), nums, rowsS, nodes, zv, bv, sv, nv, VL, VB, BEq.rfl, V1, V2, V3, V4, V5, V6, V7, V8, V9, V10, V11, V12, VE, Nat.reduceBEq, Nat.reduceAdd, Nat.reduceSub, Nat.reduceMul, Nat.reduceLeDiff, Nat.reduceLT, Nat.reduceEqDiff, Int.reduceBEq, Int.reduceBNe, Int.reduceLT, Int.reduceLE, Int.reduceAdd, Int.reduceSub, Int.reduceMul, kAgg, scD, List.all_cons, List.all_nil]
              refine ⟨k + 1, Enter.id ?_, by omega, by show m.length - (k + 1) < m.length - k; omega⟩
              simp only [hsw, nums, rowsS, nodes, zv, bv, sv, nv, VL, VB, BEq.rfl, V1, V2, V3, V4, V5, V6, V7, V8, V9, V10, V11, V12, VE, Nat.reduceBEq, Nat.reduceAdd, Nat.reduceSub, Nat.reduceMul, Nat.reduceLeDiff, Nat.reduceLT, Nat.reduceEqDiff, Int.reduceBEq, Int.reduceBNe, Int.reduceLT, Int.reduceLE, Int.reduceAdd, Int.reduceSub, Int.reduceMul, kAgg, scD, List.all_cons, List.all_nil]
          · have hk' : k = m.length := by
              have : ¬ k < m.length := by simpa using h
              omega
            subst hk'
            simp only [nums, rowsS, nodes, zv, bv, sv, nv, VL, VB, BEq.rfl, V1, V2, V3, V4, V5, V6, V7, V8, V9, V10, V11, V12, VE, Nat.reduceBEq, Nat.reduceAdd, Nat.reduceSub, Nat.reduceMul, Nat.reduceLeDiff, Nat.reduceLT, Nat.reduceEqDiff, Int.reduceBEq, Int.reduceBNe, Int.reduceLT, Int.reduceLE, Int.reduceAdd, Int.reduceSub, Int.reduceMul, kAgg, scD, List.all_cons, List.all_nil]
            refine CallX.mk (Times_ok (A w) (B m.length)) rfl ?_
            simp only [← hst, wrap_nat (k := w) (by omega), nums, rowsS, nodes, zv, bv, sv, nv, VL, VB, BEq.rfl, V1, V2, V3, V4, V5, V6, V7, V8, V9, V10, V11, V12, VE, Nat.reduceBEq, Nat.reduceAdd, Nat.reduceSub, Nat.reduceMul, Nat.reduceLeDiff, Nat.reduceLT, Nat.reduceEqDiff, Int.reduceBEq, Int.reduceBNe, Int.reduceLT, Int.reduceLE, Int.reduceAdd, Int.reduceSub, Int.reduceMul, kAgg, scD, List.all_cons, List.all_nil]
            refine ⟨w + 1, Enter.id ?_, by omega, by show t.length - (w + 1) < t.length - w; omega⟩
            simp only [nums, rowsS, nodes, zv, bv, sv, nv, VL, VB, BEq.rfl, V1, V2, V3, V4, V5, V6, V7, V8, V9, V10, V11, V12, VE, Nat.reduceBEq, Nat.reduceAdd, Nat.reduceSub, Nat.reduceMul, Nat.reduceLeDiff, Nat.reduceLT, Nat.reduceEqDiff, Int.reduceBEq, Int.reduceBNe, Int.reduceLT, Int.reduceLE, Int.reduceAdd, Int.reduceSub, Int.reduceMul, kAgg, scD, List.all_cons, List.all_nil]
        · rw [if_neg hp] at hst
          simp only [hp, wrap_nat (k := w) (by omega), nums, rowsS, nodes, zv, bv, sv, nv, VL, VB, BEq.rfl, V1, V2, V3, V4, V5, V6, V7, V8, V9, V10, V11, V12, VE, Nat.reduceBEq, Nat.reduceAdd, Nat.reduceSub, Nat.reduceMul, Nat.reduceLeDiff, Nat.reduceLT, Nat.reduceEqDiff, Int.reduceBEq, Int.reduceBNe, Int.reduceLT, Int.reduceLE, Int.reduceAdd, Int.reduceSub, Int.reduceMul, kAgg, scD, List.all_cons, List.all_nil]
          refine ⟨w + 1, Enter.id ?_, by omega, by show t.length - (w + 1) < t.length - w; omega⟩
          simp only [hst, nums, rowsS, nodes, zv, bv, sv, nv, VL, VB, BEq.rfl, V1, V2, V3, V4, V5, V6, V7, V8, V9, V10, V11, V12, VE, Nat.reduceBEq, Nat.reduceAdd, Nat.reduceSub, Nat.reduceMul, Nat.reduceLeDiff, Nat.reduceLT, Nat.reduceEqDiff, Int.reduceBEq, Int.reduceBNe, Int.reduceLT, Int.reduceLE, Int.reduceAdd, Int.reduceSub, Int.reduceMul, kAgg, scD, List.all_cons, List.all_nil]
      · have hw' : w = t.length := by
          have : ¬ w < t.length := by simpa using h
          omega
        rw [hw', hfin, ← hZe]
        simp only [hRl, hRv, nums, rowsS, nodes, zv, bv, sv, nv, VL, VB, BEq.rfl, V1, V2, V3, V4, V5, V6, V7, V8, V9, V10, V11, V12, VE, Nat.reduceBEq, Nat.reduceAdd, Nat.reduceSub, Nat.reduceMul, Nat.reduceLeDiff, Nat.reduceLT, Nat.reduceEqDiff, Int.reduceBEq, Int.reduceBNe, Int.reduceLT, Int.reduceLE, Int.reduceAdd, Int.reduceSub, Int.reduceMul, kAgg, scD, List.all_cons, List.all_nil]
        refine ⟨Int.natCast_nonneg v, hv, hv, ⟨?_, allLen_num [Z v s]⟩, Int.natCast_nonneg v, by rw [List.length_set]; omega, ?_⟩
        · simp only [List.length_range]; omega
        simp only [hRs, wrap_nat (k := s) (by omega), nums, rowsS, nodes, zv, bv, sv, nv, VL, VB, BEq.rfl, V1, V2, V3, V4, V5, V6, V7, V8, V9, V10, V11, V12, VE, Nat.reduceBEq, Nat.reduceAdd, Nat.reduceSub, Nat.reduceMul, Nat.reduceLeDiff, Nat.reduceLT, Nat.reduceEqDiff, Int.reduceBEq, Int.reduceBNe, Int.reduceLT, Int.reduceLE, Int.reduceAdd, Int.reduceSub, Int.reduceMul, kAgg, scD, List.all_cons, List.all_nil]
        refine ⟨s + 1, Enter.id ?_, by omega, by show m.length - (s + 1) < m.length - s; omega⟩
        simp only [nums, rowsS, nodes, zv, bv, sv, nv, VL, VB, BEq.rfl, V1, V2, V3, V4, V5, V6, V7, V8, V9, V10, V11, V12, VE, Nat.reduceBEq, Nat.reduceAdd, Nat.reduceSub, Nat.reduceMul, Nat.reduceLeDiff, Nat.reduceLT, Nat.reduceEqDiff, Int.reduceBEq, Int.reduceBNe, Int.reduceLT, Int.reduceLE, Int.reduceAdd, Int.reduceSub, Int.reduceMul, kAgg, scD, List.all_cons, List.all_nil]
    · have hs' : s = m.length := by
        have : ¬ s < m.length := by simpa using h
        omega
      subst hs'
      have hvw : IntKind.i64.wrap ((v : Int) - 1) = (v : Int) - 1 := wrap_in (by omega) (by omega)
      simp only [hvw, nums, rowsS, nodes, zv, bv, sv, nv, VL, VB, BEq.rfl, V1, V2, V3, V4, V5, V6, V7, V8, V9, V10, V11, V12, VE, Nat.reduceBEq, Nat.reduceAdd, Nat.reduceSub, Nat.reduceMul, Nat.reduceLeDiff, Nat.reduceLT, Nat.reduceEqDiff, Int.reduceBEq, Int.reduceBNe, Int.reduceLT, Int.reduceLE, Int.reduceAdd, Int.reduceSub, Int.reduceMul, kAgg, scD, List.all_cons, List.all_nil]
      refine ⟨v, Enter.id ?_, by omega, by show v < v + 1; omega⟩
      simp only [nestT_next, nums, rowsS, nodes, zv, bv, sv, nv, VL, VB, BEq.rfl, V1, V2, V3, V4, V5, V6, V7, V8, V9, V10, V11, V12, VE, Nat.reduceBEq, Nat.reduceAdd, Nat.reduceSub, Nat.reduceMul, Nat.reduceLeDiff, Nat.reduceLT, Nat.reduceEqDiff, Int.reduceBEq, Int.reduceBNe, Int.reduceLT, Int.reduceLE, Int.reduceAdd, Int.reduceSub, Int.reduceMul, kAgg, scD, List.all_cons, List.all_nil]
  · have hc0 : c = 0 := by
      have : ¬ 0 < c := by simpa using h
      omega
    subst hc0
    simp only [nestT_zero, rowsD_num, nums, rowsS, nodes, zv, bv, sv, nv, VL, VB, BEq.rfl, V1, V2, V3, V4, V5, V6, V7, V8, V9, V10, V11, V12, VE, Nat.reduceBEq, Nat.reduceAdd, Nat.reduceSub, Nat.reduceMul, Nat.reduceLeDiff, Nat.reduceLT, Nat.reduceEqDiff, Int.reduceBEq, Int.reduceBNe, Int.reduceLT, Int.reduceLE, Int.reduceAdd, Int.reduceSub, Int.reduceMul, kAgg, scD, List.all_cons, List.all_nil]

theorem encW_neg (N : Nat) : decide (encW N < 0) = decide (¬ N < 9223372036854775808) := by
  congr 1
  rw [encW]
  split <;> exact propext ⟨fun h => by omega, fun h => by omega⟩
theorem rWays_ok (t : List Node) (m : List (List Int)) (st : List Int) (hs : Small t) : Ok Try.prog E 34 [.c (nodes t), .c (rowsS m), .c (nums st)] (.tp [zv (waysV t m st), zv (errW t m st)]) := by
  refine ok_of_vc (L := []) (ts := [6, 7]) envOK mixed Try.func34 rfl (by kernel_rfl) rfl (by kernel_rfl) rfl fun hl => ?_
  simp only [Try.f34, waysV, errW, nums, rowsS, nodes, zv, bv, sv, nv, VL, VB, BEq.rfl, V1, V2, V3, V4, V5, V6, V7, V8, V9, V10, V11, V12, VE, Nat.reduceBEq, Nat.reduceAdd, Nat.reduceSub, Nat.reduceMul, Nat.reduceLeDiff, Nat.reduceLT, Nat.reduceEqDiff, Int.reduceBEq, Int.reduceBNe, Int.reduceLT, Int.reduceLE, Int.reduceAdd, Int.reduceSub, Int.reduceMul, kAgg, scD, List.all_cons, List.all_nil]
  refine CallX.mk (rRoots_ok t m st hs) rfl ?_
  by_cases h : errP t m st = 0
  · have hc := (errP_zero h).1
    have g := good_of hc
    have hn0 := g.n0
    have hm12 := g.mat.2.1
    simp only [rootsV, h, if_pos, nums, rowsS, nodes, zv, bv, sv, nv, VL, VB, BEq.rfl, V1, V2, V3, V4, V5, V6, V7, V8, V9, V10, V11, V12, VE, Nat.reduceBEq, Nat.reduceAdd, Nat.reduceSub, Nat.reduceMul, Nat.reduceLeDiff, Nat.reduceLT, Nat.reduceEqDiff, Int.reduceBEq, Int.reduceBNe, Int.reduceLT, Int.reduceLE, Int.reduceAdd, Int.reduceSub, Int.reduceMul, kAgg, scD, List.all_cons, List.all_nil]
    refine CallX.mk (rTable_ok t m st hs hc) rfl ?_
    simp only [nums, rowsS, nodes, zv, bv, sv, nv, VL, VB, BEq.rfl, V1, V2, V3, V4, V5, V6, V7, V8, V9, V10, V11, V12, VE, Nat.reduceBEq, Nat.reduceAdd, Nat.reduceSub, Nat.reduceMul, Nat.reduceLeDiff, Nat.reduceLT, Nat.reduceEqDiff, Int.reduceBEq, Int.reduceBNe, Int.reduceLT, Int.reduceLE, Int.reduceAdd, Int.reduceSub, Int.reduceMul, kAgg, scD, List.all_cons, List.all_nil]
    refine CallX.mk (rways_ok t m st g) rfl ?_
    have hwn : waysN t m st = cntTo (solF t m st 0) (rootP t m st).1 (finW t m (solF t m st) 0) m.length := rfl
    obtain ⟨N, hN⟩ : ∃ N, waysN t m st = N := ⟨_, rfl⟩
    rw [hN] at hwn
    simp only [hN]
    rw [cntTo_sum] at hwn
    obtain ⟨W, hW⟩ : ∃ W, finW t m (solF t m st) = W := ⟨_, rfl⟩
    rw [hW] at hwn
    obtain ⟨L, hL⟩ : ∃ L, (List.range m.length).filter (fun s => decide (solF t m st 0 s = (rootP t m st).1)) = L := ⟨_, rfl⟩
    have hLm : ∀ s ∈ L, s < m.length := fun s hs => by
      rw [← hL] at hs
      have := (List.mem_filter.1 hs).1
      simpa using this
    have hrt : rootsTo t m st m.length = L.map fun (s : Nat) => (s : Int) := by rw [rootsTo, hL]
    have hLl : L.length ≤ m.length := by
      rw [← hL]
      exact Nat.le_trans (List.length_filter_le _ _) (by simp)
    rw [hL] at hwn
    simp only [hrt, hW, nums, rowsS, nodes, zv, bv, sv, nv, VL, VB, BEq.rfl, V1, V2, V3, V4, V5, V6, V7, V8, V9, V10, V11, V12, VE, Nat.reduceBEq, Nat.reduceAdd, Nat.reduceSub, Nat.reduceMul, Nat.reduceLeDiff, Nat.reduceLT, Nat.reduceEqDiff, Int.reduceBEq, Int.reduceBNe, Int.reduceLT, Int.reduceLE, Int.reduceAdd, Int.reduceSub, Int.reduceMul, kAgg, scD, List.all_cons, List.all_nil]
    refine LoopVC.mk (Y := Nat) (fun i => i ≤ L.length) (fun i => ⟨[(8, .c (nums (L.map fun (s : Nat) => (s : Int)))), (10, .c (rowsS (tabS t.length m.length (encF W)))), (11, zv (encW (sumW (W 0) (L.take i)))), (12, nv i)], []⟩) (fun i => L.length - i) ⟨0, Enter.id ?_, by omega⟩ ?_
    · simp only [nums, rowsS, nodes, zv, bv, sv, nv, VL, VB, BEq.rfl, V1, V2, V3, V4, V5, V6, V7, V8, V9, V10, V11, V12, VE, Nat.reduceBEq, Nat.reduceAdd, Nat.reduceSub, Nat.reduceMul, Nat.reduceLeDiff, Nat.reduceLT, Nat.reduceEqDiff, Int.reduceBEq, Int.reduceBNe, Int.reduceLT, Int.reduceLE, Int.reduceAdd, Int.reduceSub, Int.reduceMul, kAgg, scD, List.all_cons, List.all_nil]
      exact ⟨rfl, rfl⟩
    intro i hi
    simp only [lt_nat, nums, rowsS, nodes, zv, bv, sv, nv, VL, VB, BEq.rfl, V1, V2, V3, V4, V5, V6, V7, V8, V9, V10, V11, V12, VE, Nat.reduceBEq, Nat.reduceAdd, Nat.reduceSub, Nat.reduceMul, Nat.reduceLeDiff, Nat.reduceLT, Nat.reduceEqDiff, Int.reduceBEq, Int.reduceBNe, Int.reduceLT, Int.reduceLE, Int.reduceAdd, Int.reduceSub, Int.reduceMul, kAgg, scD, List.all_cons, List.all_nil]
    refine guardB.mk (fun h => ?_) (fun h => ?_)
    · have hi' : i < L.length := by simpa using h
      clear h
      obtain ⟨s, hs2⟩ : ∃ s, L[i] = s := ⟨_, rfl⟩
      have hsm : s < m.length := hLm s (by rw [← hs2]; exact List.getElem_mem hi')
      have hget : (L.map fun (s : Nat) => (s : Int)).getD i 0 = (s : Int) := by simp [List.getD, hi', hs2]
      have htk : sumW (W 0) (L.take (i + 1)) = sumW (W 0) (L.take i) + W 0 s := by
        rw [List.take_add_one, List.getElem?_eq_getElem hi', hs2]
        exact sumW_app _ _ _
      have hcell := getD_rng (encF W 0) hsm
      simp only [getD_tabS hn0, tabS_len, getD_num (L.map fun (s : Nat) => (s : Int)) i (by simpa using hi'), hget, getD_num ((List.range m.length).map (encF W 0)) s (by simpa using hsm), hcell, num_def, List.length_range, nums, rowsS, nodes, zv, bv, sv, nv, VL, VB, BEq.rfl, V1, V2, V3, V4, V5, V6, V7, V8, V9, V10, V11, V12, VE, Nat.reduceBEq, Nat.reduceAdd, Nat.reduceSub, Nat.reduceMul, Nat.reduceLeDiff, Nat.reduceLT, Nat.reduceEqDiff, Int.reduceBEq, Int.reduceBNe, Int.reduceLT, Int.reduceLE, Int.reduceAdd, Int.reduceSub, Int.reduceMul, kAgg, scD, List.all_cons, List.all_nil]
      refine ⟨hn0, ⟨Int.natCast_nonneg i, hi'⟩, ⟨Int.natCast_nonneg s, hsm⟩, ?_⟩
      refine CallX.mk (Plus_ok _ (W 0 s)) rfl ?_
      simp only [← htk, wrap_nat (k := i) (by omega), nums, rowsS, nodes, zv, bv, sv, nv, VL, VB, BEq.rfl, V1, V2, V3, V4, V5, V6, V7, V8, V9, V10, V11, V12, VE, Nat.reduceBEq, Nat.reduceAdd, Nat.reduceSub, Nat.reduceMul, Nat.reduceLeDiff, Nat.reduceLT, Nat.reduceEqDiff, Int.reduceBEq, Int.reduceBNe, Int.reduceLT, Int.reduceLE, Int.reduceAdd, Int.reduceSub, Int.reduceMul, kAgg, scD, List.all_cons, List.all_nil]
      refine ⟨i + 1, Enter.id ?_, by omega, by show L.length - (i + 1) < L.length - i; omega⟩
      simp only [nums, rowsS, nodes, zv, bv, sv, nv, VL, VB, BEq.rfl, V1, V2, V3, V4, V5, V6, V7, V8, V9, V10, V11, V12, VE, Nat.reduceBEq, Nat.reduceAdd, Nat.reduceSub, Nat.reduceMul, Nat.reduceLeDiff, Nat.reduceLT, Nat.reduceEqDiff, Int.reduceBEq, Int.reduceBNe, Int.reduceLT, Int.reduceLE, Int.reduceAdd, Int.reduceSub, Int.reduceMul, kAgg, scD, List.all_cons, List.all_nil]
    · have hi' : i = L.length := by
        have : ¬ i < L.length := by simpa using h
        omega
      rw [hi', List.take_length, ← hwn]
      simp only [encW_neg, nums, rowsS, nodes, zv, bv, sv, nv, VL, VB, BEq.rfl, V1, V2, V3, V4, V5, V6, V7, V8, V9, V10, V11, V12, VE, Nat.reduceBEq, Nat.reduceAdd, Nat.reduceSub, Nat.reduceMul, Nat.reduceLeDiff, Nat.reduceLT, Nat.reduceEqDiff, Int.reduceBEq, Int.reduceBNe, Int.reduceLT, Int.reduceLE, Int.reduceAdd, Int.reduceSub, Int.reduceMul, kAgg, scD, List.all_cons, List.all_nil]
      by_cases hlt : N < 9223372036854775808
      · have e1 : encW N = N := by rw [encW, if_pos hlt]
        simp only [hlt, e1, not_true_eq_false, if_pos, nums, rowsS, nodes, zv, bv, sv, nv, VL, VB, BEq.rfl, V1, V2, V3, V4, V5, V6, V7, V8, V9, V10, V11, V12, VE, Nat.reduceBEq, Nat.reduceAdd, Nat.reduceSub, Nat.reduceMul, Nat.reduceLeDiff, Nat.reduceLT, Nat.reduceEqDiff, Int.reduceBEq, Int.reduceBNe, Int.reduceLT, Int.reduceLE, Int.reduceAdd, Int.reduceSub, Int.reduceMul, kAgg, scD, List.all_cons, List.all_nil]
      · simp only [hlt, not_false_eq_true, if_neg, if_false, nums, rowsS, nodes, zv, bv, sv, nv, VL, VB, BEq.rfl, V1, V2, V3, V4, V5, V6, V7, V8, V9, V10, V11, V12, VE, Nat.reduceBEq, Nat.reduceAdd, Nat.reduceSub, Nat.reduceMul, Nat.reduceLeDiff, Nat.reduceLT, Nat.reduceEqDiff, Int.reduceBEq, Int.reduceBNe, Int.reduceLT, Int.reduceLE, Int.reduceAdd, Int.reduceSub, Int.reduceMul, kAgg, scD, List.all_cons, List.all_nil]
        rfl
  · have h1 : (errP t m st != 0) = true := by simpa using h
    simp only [rootsV, h1, if_neg h, nums, rowsS, nodes, zv, bv, sv, nv, VL, VB, BEq.rfl, V1, V2, V3, V4, V5, V6, V7, V8, V9, V10, V11, V12, VE, Nat.reduceBEq, Nat.reduceAdd, Nat.reduceSub, Nat.reduceMul, Nat.reduceLeDiff, Nat.reduceLT, Nat.reduceEqDiff, Int.reduceBEq, Int.reduceBNe, Int.reduceLT, Int.reduceLE, Int.reduceAdd, Int.reduceSub, Int.reduceMul, kAgg, scD, List.all_cons, List.all_nil]

end Go.Cp
end
