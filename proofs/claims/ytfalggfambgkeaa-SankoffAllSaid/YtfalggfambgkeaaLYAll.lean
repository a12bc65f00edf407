/-
  SankoffAll returns true for every input: of all assignments that agree with the leaves, the cheapest ones have the cost Min, the first one is Best, their number is Ways, the states of the root are Roots, and those with a state of the root cost at least what Given says. Conditions: none.
-/
import Derived.Test.YtfalggfambgkeaaMM
set_option linter.unusedVariables false
set_option linter.unusedSimpArgs false
set_option maxHeartbeats 16000000
set_option maxRecDepth 100000
namespace Go.Cp
open Go Go.Proofs Go.Vx

def agreeN (L W : List Int) (A : List Nat) (k : Nat) : Bool := (List.range k).all fun j => decide (W.getD j 0 = -1 ∨ W.getD j 0 = ((A.getD (L.getD j 0).toNat 0 : Nat) : Int))
theorem agreeN_succ (L W : List Int) (A : List Nat) (k : Nat) : agreeN L W A (k + 1) = (agreeN L W A k && decide (W.getD k 0 = -1 ∨ W.getD k 0 = ((A.getD (L.getD k 0).toNat 0 : Nat) : Int))) := all_range_succ
def okAll (t : List Node) (m : List (List Int)) (W : List Int) (A : List Nat) : Bool := agreeN (leavesOf t) W A (leavesOf t).length && decide (errV t m (castL A) = 0)
def costAll (t : List Node) (m : List (List Int)) (A : List Nat) : Int := costV t m (castL A)
theorem okAll_iff {t : List Node} {m : List (List Int)} {W : List Int} (hc : checkE t m W = 0) {A : List Nat} (hA : A ∈ allS m.length t.length) : (okAll t m W A = true ↔ Asg t m W (castL A)) ∧ (okAll t m W A = true → costAll t m A = costTo t m (castL A) (t.length - 1)) ∧ (errV t m (castL A) = 0 ∨ errV t m (castL A) = 5) := by
  have g := good_of hc
  obtain ⟨ht, hm, _, _⟩ := checkE_zero hc
  have hl : (castL A).length = t.length := by rw [castL_len]; exact (mem_allS.1 hA).1
  have hb : ∀ v, v < t.length → 0 ≤ (castL A).getD v 0 ∧ (castL A).getD v 0 < m.length := fun v hv => by
    have := dig hA hv
    rw [castL_at]; omega
  have hfit : agreeN (leavesOf t) W A (leavesOf t).length = true ↔ ∀ v, v < t.length → iniF t m W v (aOf (castL A) v) = 0 := by
    rw [agreeN, List.all_eq_true]
    constructor
    · intro h v hv
      rw [castL_a]
      refine (ini_zero (dig hA hv)).2 fun k hk e => ?_
      have := h k (by simpa using hk)
      rw [e] at this
      simpa using this
    · intro h k hk
      have hk : k < (leavesOf t).length := by simpa using hk
      obtain ⟨v, hv, hvn⟩ := leaf_at hk
      have := h v hvn
      rw [castL_a] at this
      have := (ini_zero (dig hA hvn)).1 this k hk (by rw [hv]; rfl)
      rw [hv]
      simpa using this
  have hz := check_zeroA ht hm hl hb
  have hcan := can_iff (t := t) (m := m) (all := castL A)
  refine ⟨?_, fun h => ?_, ?_⟩
  · rw [okAll, Bool.and_eq_true, hfit, decide_eq_true_eq]
    constructor
    · rintro ⟨h1, h2⟩
      rcases cost_cases hc hl hb h1 with ⟨_, _, h⟩ | ⟨h, _⟩
      · exact h
      · omega
    · intro h
      exact ⟨h.fit, (asg_cost hc h).1⟩
  · rw [okAll, Bool.and_eq_true, hfit, decide_eq_true_eq] at h
    rcases cost_cases hc hl hb h.1 with ⟨_, h3, _⟩ | ⟨h3, _⟩
    · exact h3
    · omega
  · rw [errV, if_pos hz]
    cases canTo t m (castL A) (t.length - 1)
    · exact .inr rfl
    · exact .inl rfl
theorem acc_ways (ok : List Nat → Bool) (cost : List Nat → Int) (n : Nat) : ∀ p : List (List Nat), 0 ≤ (accTo ok cost n p).ways ∧ (accTo ok cost n p).ways ≤ p.length := by
  refine rev_ind ⟨by simp [accTo, acc0], by simp [accTo, acc0]⟩ fun p A ih => ?_
  rw [accTo_app, stepAcc, List.length_append]
  simp only [List.length_cons, List.length_nil]
  split
  · split
    · simp only; omega
    · split
      · simp only; omega
      · simp only; omega
  · omega
theorem acc_first (ok : List Nat → Bool) (cost : List Nat → Int) (n N : Nat) : ∀ p : List (List Nat), (∀ A ∈ p, A.length = N) → (accTo ok cost n p).first.length ≤ N := by
  refine rev_ind (fun _ => by simp [accTo, acc0]) fun p A ih => ?_
  intro h
  have ih := ih fun B hB => h B (List.mem_append_left _ hB)
  have hA := h A (by simp)
  rw [accTo_app, stepAcc]
  split
  · split
    · simp only [castL_len]; omega
    · split <;> exact ih
  · exact ih
def allAt (n N i : Nat) : List Nat := ((allS n N)[i]?).getD (List.replicate N 0)
theorem allAt_mem {n N i : Nat} (h : i < (allS n N).length) : allAt n N i ∈ allS n N := by
  rw [allAt, List.getElem?_eq_getElem h]; exact List.getElem_mem _
theorem allAt_next {n N i : Nat} (hn : 0 < n) (h : i < (allS n N).length) : nextR n (allAt n N i) = allAt n N (i + 1) ∧ (nextN n (allAt n N i)).isSome = decide (i + 1 < (allS n N).length) := by
  have h1 : (allS n N)[i]? = some (allAt n N i) := by rw [allAt, List.getElem?_eq_getElem h]; rfl
  have h2 := next_spec n hn N i _ h1
  have h3 := (mem_allS.1 (allAt_mem h)).1
  rw [nextR, h2, h3]
  refine ⟨rfl, ?_⟩
  by_cases h4 : i + 1 < (allS n N).length
  · rw [List.getElem?_eq_getElem h4, decide_eq_true h4]; rfl
  · rw [List.getElem?_eq_none (by omega), decide_eq_false h4]; rfl
theorem take_at {n N i : Nat} (h : i < (allS n N).length) : (allS n N).take (i + 1) = (allS n N).take i ++ [allAt n N i] := by
  rw [List.take_add_one, List.getElem?_eq_getElem h, allAt, List.getElem?_eq_getElem h]; rfl
def rootsA (F : Nat → Int) (x : Int) (k : Nat) : List Int := ((List.range k).filter fun s => decide (0 ≤ F s ∧ F s = x)).map fun (s : Nat) => (s : Int)
theorem rootsA_succ (F : Nat → Int) (x : Int) (k : Nat) : (rootsA F x (k + 1)).map num = if 0 ≤ F k ∧ F k = x then (rootsA F x k).map num ++ [num k] else (rootsA F x k).map num := by
  rw [rootsA, List.range_succ, List.filter_append, List.map_append]
  by_cases h : 0 ≤ F k ∧ F k = x
  · rw [if_pos h, List.filter_cons_of_pos (by simpa using h), List.map_append]; rfl
  · rw [if_neg h, List.filter_cons_of_neg (by simpa using h)]; simp [rootsA]
theorem rootsA_len (F : Nat → Int) (x : Int) (k : Nat) : (rootsA F x k).length ≤ k := by
  rw [rootsA, List.length_map]
  exact Nat.le_trans (List.length_filter_le _ _) (by simp)
theorem sc_nums (e : Nat) (l : List Int) : ScFr (.fr e (l.map num)) := by
  intro x hx
  obtain ⟨n, _, rfl⟩ := List.mem_map.1 hx
  rfl

def initG (n k : Nat) : List Int := List.replicate k (-1) ++ List.replicate (n - k) 0
theorem initG_len {n k : Nat} (h : k ≤ n) : (initG n k).length = n := by simp [initG]; omega
theorem initG_set {n k : Nat} (h : k < n) : (initG n k).set k (-1) = initG n (k + 1) := by
  rw [initG, initG, List.set_append, if_neg (by simp), List.length_replicate, Nat.sub_self, show n - k = (n - (k + 1)) + 1 by omega, List.replicate_succ, List.set_cons_zero, List.replicate_succ' (n := k), List.append_assoc]
  rfl

theorem all_law (ps cs ss : List Nat) (c : Nat) (hp : ∀ i, ps.getD i 0 < 256) (hpl : ps.length ≤ 9223372036854775807) (hcs : ∀ i, cs.getD i 0 < 256) (hss : ∀ i, ss.getD i 0 < 256) (hc : c < 256) :
    Ok Try.prog E 12 [.c (bytesD ps), .c (bytesD cs), .c (bytesD ss), .c (.sc (.int .u8 c))] (bv true) := by
  refine ok_of_vc (L := []) (ts := [8]) envOK mixed Try.func12 rfl (by kernel_rfl) rfl (by kernel_rfl) rfl fun hl => ?_
  obtain ⟨n, hn⟩ : ∃ n, 1 + c % 3 = n := ⟨_, rfl⟩
  have hn0 : 0 < n := by omega
  have hn3 : n ≤ 3 := by omega
  have hn12 : n ≤ 12 := by omega
  have w1 : IntKind.i64.wrap (c : Int) = (c : Int) := wrap_in (by omega) (by omega)
  have w2 : Int.tmod (c : Int) 3 = ((c % 3 : Nat) : Int) := tmodN c 3
  have w3 : IntKind.i64.wrap (1 + ((c % 3 : Nat) : Int)) = (n : Int) := by rw [wrap_in (by omega) (by omega)]; omega
  simp only [Try.f12, w1, w2, w3, nums, rowsS, nodes, zv, bv, sv, nv, bytesD, VL, VB, BEq.rfl, V1, V2, V3, V4, V5, V6, V7, V8, V9, V10, V11, V12, VE, Nat.reduceBEq, Nat.reduceAdd, Nat.reduceSub, Nat.reduceMul, Nat.reduceLeDiff, Nat.reduceLT, Nat.reduceEqDiff, Int.reduceBEq, Int.reduceBNe, Int.reduceLT, Int.reduceLE, Int.reduceAdd, Int.reduceSub, Int.reduceMul, kAgg, scD, List.all_cons, List.all_nil]
  refine ⟨by decide, ?_⟩
  refine CallX.mk (grown_ok ps 6 (by omega) hp hpl) rfl ?_
  simp only [nums, rowsS, nodes, zv, bv, sv, nv, bytesD, VL, VB, BEq.rfl, V1, V2, V3, V4, V5, V6, V7, V8, V9, V10, V11, V12, VE, Nat.reduceBEq, Nat.reduceAdd, Nat.reduceSub, Nat.reduceMul, Nat.reduceLeDiff, Nat.reduceLT, Nat.reduceEqDiff, Int.reduceBEq, Int.reduceBNe, Int.reduceLT, Int.reduceLE, Int.reduceAdd, Int.reduceSub, Int.reduceMul, kAgg, scD, List.all_cons, List.all_nil]
  refine CallX.mk (square_ok n cs true hn0 hn12 hcs) rfl ?_
  simp only [nums, rowsS, nodes, zv, bv, sv, nv, bytesD, VL, VB, BEq.rfl, V1, V2, V3, V4, V5, V6, V7, V8, V9, V10, V11, V12, VE, Nat.reduceBEq, Nat.reduceAdd, Nat.reduceSub, Nat.reduceMul, Nat.reduceLeDiff, Nat.reduceLT, Nat.reduceEqDiff, Int.reduceBEq, Int.reduceBNe, Int.reduceLT, Int.reduceLE, Int.reduceAdd, Int.reduceSub, Int.reduceMul, kAgg, scD, List.all_cons, List.all_nil]
  obtain ⟨T, hT⟩ : ∃ T, grownTo ps (min ps.length 6) = T := ⟨_, rfl⟩
  have hok : okTree T = true := by rw [← hT]; exact grown_okTree ps (by omega)
  have hsm : Small T := by rw [← hT]; exact grown_small ps (by omega)
  have hlp := leaves_pos hok
  have hll := leaves_len T
  have hnl : T.length = min ps.length 6 + 1 := by rw [← hT]; exact grownTo_len ps _
  have hml : (matD n cs).length = n := squareT_len _ _ _ _
  simp only [hT]
  refine CallX.mk (known_ok (leavesOf T) n ss hn0 hn12 (by omega) hss) rfl ?_
  obtain ⟨W, hW⟩ : ∃ W, knownL n ss (leavesOf T).length = W := ⟨_, rfl⟩
  have hWl : W.length = (leavesOf T).length := by rw [← hW, knownL_len]
  have hck : checkE T (matD n cs) W = 0 := check_of hok (square_okM n cs true hn0 hn12) hWl fun k hk => by
    rw [← hW, known_at (by omega), squareT_len]; exact knownN_bd n ss k hn0
  have g := good_of hck
  have hoi := fun A hA => okAll_iff hck (A := A) hA
  have hfin := all_final hck (ok := okAll T (matD n cs) W) (cost := costAll T (matD n cs)) (fun A hA => (hoi A hA).1) (fun A hA => (hoi A hA).2.1)
  have hec := err_cases hck
  have hev : errW T (matD n cs) W = if errP T (matD n cs) W = 0 then (if waysN T (matD n cs) W < 9223372036854775808 then 0 else 7) else errP T (matD n cs) W := rfl
  have hwv : waysV T (matD n cs) W = if errW T (matD n cs) W = 0 then (waysN T (matD n cs) W : Int) else 0 := rfl
  have hmv : minV T (matD n cs) W = if errP T (matD n cs) W = 0 then (rootP T (matD n cs) W).1 else 0 := rfl
  have hbv : bestV T (matD n cs) W = if errP T (matD n cs) W = 0 then pickTo T (matD n cs) W T.length else [] := rfl
  have hrv : rootsV T (matD n cs) W = if errP T (matD n cs) W = 0 then rootsTo T (matD n cs) W (matD n cs).length else [] := rfl
  have hrt : ∀ x k, 0 ≤ x → x = (rootP T (matD n cs) W).1 → rootsA (solF T (matD n cs) W 0) x k = rootsTo T (matD n cs) W k := fun x k h0 hx => by
    rw [rootsA, rootsTo]
    congr 1
    refine List.filter_congr fun s _ => ?_
    congr 1
    exact propext ⟨fun h => by omega, fun h => by omega⟩
  have heg : ∀ s : Nat, s < n → errG T (matD n cs) W (s : Int) = if solF T (matD n cs) W 0 s = -1 then 5 else 0 := fun s hs => by
    rw [errG, if_pos hck, if_neg (by omega), Int.toNat_natCast]
  have hgv : ∀ s : Nat, givenV T (matD n cs) W (s : Int) = if errG T (matD n cs) W (s : Int) = 0 then solF T (matD n cs) W 0 s else 0 := fun s => by
    rw [givenV, Int.toNat_natCast]
  have hbd := g.bd 0
  have hSlen : (allS n T.length).length ≤ 2187 := by
    rw [allS_len]
    have h1 : n ^ T.length ≤ 3 ^ T.length := Nat.pow_le_pow_left hn3 _
    have h2 : 3 ^ T.length ≤ 3 ^ 7 := Nat.pow_le_pow_right (by omega) (by omega)
    exact Nat.le_trans h1 h2
  have hSpos : 0 < (allS n T.length).length := by rw [allS_len]; exact Nat.pow_pos hn0
  have haw := acc_ways (okAll T (matD n cs) W) (costAll T (matD n cs)) n
  have haf := acc_first (okAll T (matD n cs) W) (costAll T (matD n cs)) n T.length
  have hacc := fun p A => accTo_app (okAll T (matD n cs) W) (costAll T (matD n cs)) n p A
  have hagl : ∀ p, (∀ A ∈ p, A ∈ allS n T.length) → (accTo (okAll T (matD n cs) W) (costAll T (matD n cs)) n p).given.length = n := fun p hp' =>
    (accOK (ok := okAll T (matD n cs) W) (cost := costAll T (matD n cs)) (n := n) p (fun A hA => by
      have hA := hp' A hA
      rw [← hml] at hA
      refine ⟨by rw [← hml]; exact dig hA g.n0, fun ho => ?_⟩
      have h1 := ((hoi A hA).1).1 ho
      have h2 := (opt_lower hck h1).2.2
      have h3 := (asg_root g h1).1
      rw [(hoi A hA).2.1 ho]
      omega)).glen
  have hoke : ∀ A, okAll T (matD n cs) W A = (agreeN (leavesOf T) W A (leavesOf T).length && decide (errV T (matD n cs) (castL A) = 0)) := fun A => rfl
  have hce : ∀ A, costAll T (matD n cs) A = costV T (matD n cs) (castL A) := fun A => rfl
  have hleafn := fun k => leaf_at (t := T) (k := k)
  simp only [hml] at hoi hfin
  obtain ⟨M, hM⟩ : ∃ M, matD n cs = M := ⟨_, rfl⟩
  simp only [hM] at hoi hfin hec hev hwv hmv hbv hrv hrt heg hgv hbd haw haf hacc hagl hoke hce hck hml
  obtain ⟨F, hF⟩ : ∃ F, solF T M W 0 = F := ⟨_, rfl⟩
  simp only [hF] at hfin heg hgv hrt hbd
  obtain ⟨ok, hoke2⟩ : ∃ ok, okAll T M W = ok := ⟨_, rfl⟩
  obtain ⟨cost, hce2⟩ : ∃ cost, costAll T M = cost := ⟨_, rfl⟩
  simp only [hoke2, hce2] at hoi hfin haw haf hacc hagl hoke hce
  obtain ⟨L, hLe⟩ : ∃ L, leavesOf T = L := ⟨_, rfl⟩
  simp only [hLe] at hlp hll hWl hoke hleafn
  simp only [hW, hM]
  simp only [hLe, nums, rowsS, nodes, zv, bv, sv, nv, bytesD, VL, VB, BEq.rfl, V1, V2, V3, V4, V5, V6, V7, V8, V9, V10, V11, V12, VE, Nat.reduceBEq, Nat.reduceAdd, Nat.reduceSub, Nat.reduceMul, Nat.reduceLeDiff, Nat.reduceLT, Nat.reduceEqDiff, Int.reduceBEq, Int.reduceBNe, Int.reduceLT, Int.reduceLE, Int.reduceAdd, Int.reduceSub, Int.reduceMul, kAgg, scD, List.all_cons, List.all_nil]
  refine ⟨by omega, ?_⟩
  have hz0 : List.replicate n [D.sc (.int .i64 0)] = (initG n 0).map num := by simp [initG, num]
  have hil : ∀ k, k ≤ n → (initG n k).length = n := fun k hk => initG_len hk
  simp only [hz0, hil 0 (by omega), nums, rowsS, nodes, zv, bv, sv, nv, bytesD, VL, VB, BEq.rfl, V1, V2, V3, V4, V5, V6, V7, V8, V9, V10, V11, V12, VE, Nat.reduceBEq, Nat.reduceAdd, Nat.reduceSub, Nat.reduceMul, Nat.reduceLeDiff, Nat.reduceLT, Nat.reduceEqDiff, Int.reduceBEq, Int.reduceBNe, Int.reduceLT, Int.reduceLE, Int.reduceAdd, Int.reduceSub, Int.reduceMul, kAgg, scD, List.all_cons, List.all_nil]
  refine LoopVC.mk (Y := Nat) (fun k => k ≤ n) (fun k => ⟨[(9, nv n), (10, .c (nodes T)), (11, .c (nums L)), (12, .c (rowsS M)), (13, .osl 55 0), (14, zv (-1)), (15, zv 0), (16, .c (.sc (.slice none 0 0))), (17, .osl 57 0), (59, nv n), (60, nv k)], [(55, .arr 3 0 (W.map num)), (57, .arr 2 0 ((initG n k).map num))]⟩) (fun k => n - k) ⟨0, Enter.id ?_, by omega⟩ ?_
  · simp only [nums, rowsS, nodes, zv, bv, sv, nv, bytesD, VL, VB, BEq.rfl, V1, V2, V3, V4, V5, V6, V7, V8, V9, V10, V11, V12, VE, Nat.reduceBEq, Nat.reduceAdd, Nat.reduceSub, Nat.reduceMul, Nat.reduceLeDiff, Nat.reduceLT, Nat.reduceEqDiff, Int.reduceBEq, Int.reduceBNe, Int.reduceLT, Int.reduceLE, Int.reduceAdd, Int.reduceSub, Int.reduceMul, kAgg, scD, List.all_cons, List.all_nil]
    rfl
  intro k hk
  simp only [lt_nat, nums, rowsS, nodes, zv, bv, sv, nv, bytesD, VL, VB, BEq.rfl, V1, V2, V3, V4, V5, V6, V7, V8, V9, V10, V11, V12, VE, Nat.reduceBEq, Nat.reduceAdd, Nat.reduceSub, Nat.reduceMul, Nat.reduceLeDiff, Nat.reduceLT, Nat.reduceEqDiff, Int.reduceBEq, Int.reduceBNe, Int.reduceLT, Int.reduceLE, Int.reduceAdd, Int.reduceSub, Int.reduceMul, kAgg, scD, List.all_cons, List.all_nil]
  refine guardB.mk (fun h => ?_) (fun h => ?_)
  · have hk' : k < n := by simpa using h
    clear h
    have h1 : (((initG n k).map num).getD k []).length = 1 := row_oneS _ k (by rw [hil k hk]; exact hk')
    simp only [set_numS, initG_set hk', drop1_num, h1, hil k hk, wrap_nat (k := k) (by omega), nums, rowsS, nodes, zv, bv, sv, nv, bytesD, VL, VB, BEq.rfl, V1, V2, V3, V4, V5, V6, V7, V8, V9, V10, V11, V12, VE, Nat.reduceBEq, Nat.reduceAdd, Nat.reduceSub, Nat.reduceMul, Nat.reduceLeDiff, Nat.reduceLT, Nat.reduceEqDiff, Int.reduceBEq, Int.reduceBNe, Int.reduceLT, Int.reduceLE, Int.reduceAdd, Int.reduceSub, Int.reduceMul, kAgg, scD, List.all_cons, List.all_nil]
    refine ⟨Int.natCast_nonneg k, hk', hk', k + 1, Enter.id ?_, by omega, by show n - (k + 1) < n - k; omega⟩
    simp only [nums, rowsS, nodes, zv, bv, sv, nv, bytesD, VL, VB, BEq.rfl, V1, V2, V3, V4, V5, V6, V7, V8, V9, V10, V11, V12, VE, Nat.reduceBEq, Nat.reduceAdd, Nat.reduceSub, Nat.reduceMul, Nat.reduceLeDiff, Nat.reduceLT, Nat.reduceEqDiff, Int.reduceBEq, Int.reduceBNe, Int.reduceLT, Int.reduceLE, Int.reduceAdd, Int.reduceSub, Int.reduceMul, kAgg, scD, List.all_cons, List.all_nil]
  have hk' : n = k := by
    have : ¬ k < n := by simpa using h
    omega
  subst hk'
  clear h
  simp only [nums, rowsS, nodes, zv, bv, sv, nv, bytesD, VL, VB, BEq.rfl, V1, V2, V3, V4, V5, V6, V7, V8, V9, V10, V11, V12, VE, Nat.reduceBEq, Nat.reduceAdd, Nat.reduceSub, Nat.reduceMul, Nat.reduceLeDiff, Nat.reduceLT, Nat.reduceEqDiff, Int.reduceBEq, Int.reduceBNe, Int.reduceLT, Int.reduceLE, Int.reduceAdd, Int.reduceSub, Int.reduceMul, kAgg, scD, List.all_cons, List.all_nil]
  refine ⟨by omega, ?_⟩
  obtain ⟨S, hS⟩ : ∃ S, allS n T.length = S := ⟨_, rfl⟩
  have hSn := fun i => allAt_next (n := n) (N := T.length) (i := i) hn0
  have hSt := fun i => take_at (n := n) (N := T.length) (i := i)
  have hSm := fun i => allAt_mem (n := n) (N := T.length) (i := i)
  have hS0 : allAt n T.length 0 = List.replicate T.length 0 := by rw [allAt, allS_head n hn0]; rfl
  rw [hS] at hSlen hSpos
  simp only [hS] at hfin hSn hSt hSm hoi hagl
  refine LoopVC.mk (Y := Nat) (fun i => i ≤ S.length) (fun i => ⟨[(9, nv n), (10, .c (nodes T)), (11, .c (nums L)), (12, .c (rowsS M)), (13, .osl 55 0), (14, zv (accTo ok cost n (S.take i)).least), (15, zv (accTo ok cost n (S.take i)).ways), (16, .c (nums (accTo ok cost n (S.take i)).first)), (17, .osl 57 0), (19, .osl 69 0), (20, bv (decide (i < S.length)))], [(55, .arr 3 0 (W.map num)), (57, .arr 2 0 ((accTo ok cost n (S.take i)).given.map num)), (69, .arr 3 0 ((castL (allAt n T.length i)).map num))]⟩) (fun i => S.length - i) ⟨0, Enter.id ?_, by omega⟩ ?_
  · have e0 : accTo ok cost n [] = acc0 n := rfl
    have e1 : List.replicate T.length [D.sc (.int .i64 0)] = (castL (List.replicate T.length 0)).map num := by simp [castL, num]
    have e2 : (initG n n) = List.replicate n (-1) := by simp [initG]
    simp only [e0, e1, e2, acc0, hS0, decide_eq_true hSpos, nums, rowsS, nodes, zv, bv, sv, nv, bytesD, VL, VB, BEq.rfl, V1, V2, V3, V4, V5, V6, V7, V8, V9, V10, V11, V12, VE, Nat.reduceBEq, Nat.reduceAdd, Nat.reduceSub, Nat.reduceMul, Nat.reduceLeDiff, Nat.reduceLT, Nat.reduceEqDiff, Int.reduceBEq, Int.reduceBNe, Int.reduceLT, Int.reduceLE, Int.reduceAdd, Int.reduceSub, Int.reduceMul, kAgg, scD, List.all_cons, List.all_nil]
  intro i hi
  simp only [nums, rowsS, nodes, zv, bv, sv, nv, bytesD, VL, VB, BEq.rfl, V1, V2, V3, V4, V5, V6, V7, V8, V9, V10, V11, V12, VE, Nat.reduceBEq, Nat.reduceAdd, Nat.reduceSub, Nat.reduceMul, Nat.reduceLeDiff, Nat.reduceLT, Nat.reduceEqDiff, Int.reduceBEq, Int.reduceBNe, Int.reduceLT, Int.reduceLE, Int.reduceAdd, Int.reduceSub, Int.reduceMul, kAgg, scD, List.all_cons, List.all_nil]
  have hmem : ∀ A ∈ S.take i, A ∈ S := fun A hA => List.mem_of_mem_take hA
  have haw := haw (S.take i)
  have haf := haf (S.take i) fun A hA => (mem_allS.1 (by rw [hS]; exact hmem A hA)).1
  have hagl := hagl (S.take i) hmem
  have hlti : (S.take i).length ≤ i := by rw [List.length_take]; omega
  refine guardB.mk (fun h => ?_) (fun h => ?_)
  · have hi' : i < S.length := by simpa using h
    clear h
    have hA := hSm i hi'
    obtain ⟨hnx1, hnx2⟩ := hSn i hi'
    have hoi := (hoi _ hA).2.2
    have hstep := hacc (S.take i) (allAt n T.length i)
    rw [← hSt i hi'] at hstep
    have hAb := hA
    rw [← hS] at hAb
    obtain ⟨hAl, hAd⟩ := mem_allS.1 hAb
    obtain ⟨A, hAe⟩ : ∃ A, allAt n T.length i = A := ⟨_, rfl⟩
    rw [hAe] at hoi hstep hAl hAd hnx1 hnx2
    obtain ⟨B, hB⟩ : ∃ B, allAt n T.length (i + 1) = B := ⟨_, rfl⟩
    rw [hB] at hnx1
    have hokA := hoke A
    have hceA := hce A
    obtain ⟨a, ha⟩ : ∃ a, accTo ok cost n (S.take i) = a := ⟨_, rfl⟩
    obtain ⟨lst, ws, fst, gv⟩ := a
    rw [ha] at hstep haw haf hagl
    simp only at haw haf hagl
    simp only [ha, hAe]
    have hcAl := castL_len A
    simp only [nums, rowsS, nodes, zv, bv, sv, nv, bytesD, VL, VB, BEq.rfl, V1, V2, V3, V4, V5, V6, V7, V8, V9, V10, V11, V12, VE, Nat.reduceBEq, Nat.reduceAdd, Nat.reduceSub, Nat.reduceMul, Nat.reduceLeDiff, Nat.reduceLT, Nat.reduceEqDiff, Int.reduceBEq, Int.reduceBNe, Int.reduceLT, Int.reduceLE, Int.reduceAdd, Int.reduceSub, Int.reduceMul, kAgg, scD, List.all_cons, List.all_nil]
    refine LoopVC.mk (Y := Nat) (fun k => k ≤ L.length) (fun k => ⟨[(9, nv n), (10, .c (nodes T)), (11, .c (nums L)), (12, .c (rowsS M)), (13, .osl 55 0), (14, zv lst), (15, zv ws), (16, .c (nums fst)), (17, .osl 57 0), (19, .osl 69 0), (21, bv (agreeN L W A k)), (74, .c (nums L)), (75, nv L.length), (76, nv k)], [(55, .arr 3 0 (W.map num)), (57, .arr 2 0 (gv.map num)), (69, .arr 3 0 ((castL A).map num))]⟩) (fun k => L.length - k) ⟨0, Enter.id ?_, by omega⟩ ?_
    · have e0 : agreeN L W A 0 = true := rfl
      simp only [e0, nums, rowsS, nodes, zv, bv, sv, nv, bytesD, VL, VB, BEq.rfl, V1, V2, V3, V4, V5, V6, V7, V8, V9, V10, V11, V12, VE, Nat.reduceBEq, Nat.reduceAdd, Nat.reduceSub, Nat.reduceMul, Nat.reduceLeDiff, Nat.reduceLT, Nat.reduceEqDiff, Int.reduceBEq, Int.reduceBNe, Int.reduceLT, Int.reduceLE, Int.reduceAdd, Int.reduceSub, Int.reduceMul, kAgg, scD, List.all_cons, List.all_nil]
      rfl
    intro k hk
    simp only [lt_nat, nums, rowsS, nodes, zv, bv, sv, nv, bytesD, VL, VB, BEq.rfl, V1, V2, V3, V4, V5, V6, V7, V8, V9, V10, V11, V12, VE, Nat.reduceBEq, Nat.reduceAdd, Nat.reduceSub, Nat.reduceMul, Nat.reduceLeDiff, Nat.reduceLT, Nat.reduceEqDiff, Int.reduceBEq, Int.reduceBNe, Int.reduceLT, Int.reduceLE, Int.reduceAdd, Int.reduceSub, Int.reduceMul, kAgg, scD, List.all_cons, List.all_nil]
    refine guardB.mk (fun h => ?_) (fun h => ?_)
    · have hk' : k < L.length := by simpa using h
      clear h
      obtain ⟨v, hv, hvn⟩ := hleafn k hk'
      have has := agreeN_succ L W A k
      rw [hv, Int.toNat_natCast] at has
      have hvl : v < (castL A).length := by omega
      have hav : (castL A).getD v 0 = (A.getD v 0 : Nat) := castL_at A v
      obtain ⟨w, hw⟩ : ∃ w, W.getD k 0 = w := ⟨_, rfl⟩
      obtain ⟨x, hx⟩ : ∃ x, A.getD v 0 = x := ⟨_, rfl⟩
      obtain ⟨b, hb⟩ : ∃ b, agreeN L W A k = b := ⟨_, rfl⟩
      rw [hw, hx, hb] at has
      rw [hx] at hav
      have hkW : k < W.length := by omega
      simp only [getD_num L k hk', hv, hb, num_def, nums, rowsS, nodes, zv, bv, sv, nv, bytesD, VL, VB, BEq.rfl, V1, V2, V3, V4, V5, V6, V7, V8, V9, V10, V11, V12, VE, Nat.reduceBEq, Nat.reduceAdd, Nat.reduceSub, Nat.reduceMul, Nat.reduceLeDiff, Nat.reduceLT, Nat.reduceEqDiff, Int.reduceBEq, Int.reduceBNe, Int.reduceLT, Int.reduceLE, Int.reduceAdd, Int.reduceSub, Int.reduceMul, kAgg, scD, List.all_cons, List.all_nil]
      refine ⟨⟨Int.natCast_nonneg k, hk'⟩, ?_⟩
      cases b with
      | false =>
        rw [Bool.false_and] at has
        simp only [nums, rowsS, nodes, zv, bv, sv, nv, bytesD, VL, VB, BEq.rfl, V1, V2, V3, V4, V5, V6, V7, V8, V9, V10, V11, V12, VE, Nat.reduceBEq, Nat.reduceAdd, Nat.reduceSub, Nat.reduceMul, Nat.reduceLeDiff, Nat.reduceLT, Nat.reduceEqDiff, Int.reduceBEq, Int.reduceBNe, Int.reduceLT, Int.reduceLE, Int.reduceAdd, Int.reduceSub, Int.reduceMul, kAgg, scD, List.all_cons, List.all_nil]
        simp only [wrap_nat (k := k) (by omega), nums, rowsS, nodes, zv, bv, sv, nv, bytesD, VL, VB, BEq.rfl, V1, V2, V3, V4, V5, V6, V7, V8, V9, V10, V11, V12, VE, Nat.reduceBEq, Nat.reduceAdd, Nat.reduceSub, Nat.reduceMul, Nat.reduceLeDiff, Nat.reduceLT, Nat.reduceEqDiff, Int.reduceBEq, Int.reduceBNe, Int.reduceLT, Int.reduceLE, Int.reduceAdd, Int.reduceSub, Int.reduceMul, kAgg, scD, List.all_cons, List.all_nil]
        refine ⟨k + 1, Enter.id ?_, by omega, by show L.length - (k + 1) < L.length - k; omega⟩
        simp only [has, nums, rowsS, nodes, zv, bv, sv, nv, bytesD, VL, VB, BEq.rfl, V1, V2, V3, V4, V5, V6, V7, V8, V9, V10, V11, V12, VE, Nat.reduceBEq, Nat.reduceAdd, Nat.reduceSub, Nat.reduceMul, Nat.reduceLeDiff, Nat.reduceLT, Nat.reduceEqDiff, Int.reduceBEq, Int.reduceBNe, Int.reduceLT, Int.reduceLE, Int.reduceAdd, Int.reduceSub, Int.reduceMul, kAgg, scD, List.all_cons, List.all_nil]
      | true =>
        rw [Bool.true_and] at has
        simp only [getD_num W k hkW, hw, int_beq, num_def, nums, rowsS, nodes, zv, bv, sv, nv, bytesD, VL, VB, BEq.rfl, V1, V2, V3, V4, V5, V6, V7, V8, V9, V10, V11, V12, VE, Nat.reduceBEq, Nat.reduceAdd, Nat.reduceSub, Nat.reduceMul, Nat.reduceLeDiff, Nat.reduceLT, Nat.reduceEqDiff, Int.reduceBEq, Int.reduceBNe, Int.reduceLT, Int.reduceLE, Int.reduceAdd, Int.reduceSub, Int.reduceMul, kAgg, scD, List.all_cons, List.all_nil]
        refine ⟨Int.natCast_nonneg k, hkW, hkW, ?_⟩
        refine guardB.mk (fun h => ?_) (fun h => ?_) <;> simp only [h, nums, rowsS, nodes, zv, bv, sv, nv, bytesD, VL, VB, BEq.rfl, V1, V2, V3, V4, V5, V6, V7, V8, V9, V10, V11, V12, VE, Nat.reduceBEq, Nat.reduceAdd, Nat.reduceSub, Nat.reduceMul, Nat.reduceLeDiff, Nat.reduceLT, Nat.reduceEqDiff, Int.reduceBEq, Int.reduceBNe, Int.reduceLT, Int.reduceLE, Int.reduceAdd, Int.reduceSub, Int.reduceMul, kAgg, scD, List.all_cons, List.all_nil]
        · have h : w = -1 := by simpa using h
          rw [decide_eq_true (.inl h)] at has
          simp only [wrap_nat (k := k) (by omega), nums, rowsS, nodes, zv, bv, sv, nv, bytesD, VL, VB, BEq.rfl, V1, V2, V3, V4, V5, V6, V7, V8, V9, V10, V11, V12, VE, Nat.reduceBEq, Nat.reduceAdd, Nat.reduceSub, Nat.reduceMul, Nat.reduceLeDiff, Nat.reduceLT, Nat.reduceEqDiff, Int.reduceBEq, Int.reduceBNe, Int.reduceLT, Int.reduceLE, Int.reduceAdd, Int.reduceSub, Int.reduceMul, kAgg, scD, List.all_cons, List.all_nil]
          refine ⟨k + 1, Enter.id ?_, by omega, by show L.length - (k + 1) < L.length - k; omega⟩
          simp only [has, nums, rowsS, nodes, zv, bv, sv, nv, bytesD, VL, VB, BEq.rfl, V1, V2, V3, V4, V5, V6, V7, V8, V9, V10, V11, V12, VE, Nat.reduceBEq, Nat.reduceAdd, Nat.reduceSub, Nat.reduceMul, Nat.reduceLeDiff, Nat.reduceLT, Nat.reduceEqDiff, Int.reduceBEq, Int.reduceBNe, Int.reduceLT, Int.reduceLE, Int.reduceAdd, Int.reduceSub, Int.reduceMul, kAgg, scD, List.all_cons, List.all_nil]
        · have h : w ≠ -1 := by simpa using h
          have e1 : decide (w = -1 ∨ w = (x : Int)) = decide (w = (x : Int)) := by congr 1; exact propext ⟨fun e => e.resolve_left h, fun e => .inr e⟩
          rw [e1] at has
          simp only [getD_num W k hkW, hw, getD_num (castL A) v hvl, hav, num_def, int_beq, List.length_map, hcAl, nums, rowsS, nodes, zv, bv, sv, nv, bytesD, VL, VB, BEq.rfl, V1, V2, V3, V4, V5, V6, V7, V8, V9, V10, V11, V12, VE, Nat.reduceBEq, Nat.reduceAdd, Nat.reduceSub, Nat.reduceMul, Nat.reduceLeDiff, Nat.reduceLT, Nat.reduceEqDiff, Int.reduceBEq, Int.reduceBNe, Int.reduceLT, Int.reduceLE, Int.reduceAdd, Int.reduceSub, Int.reduceMul, kAgg, scD, List.all_cons, List.all_nil]
          refine ⟨Int.natCast_nonneg k, hkW, hkW, Int.natCast_nonneg v, by omega, by omega, ?_⟩
          simp only [wrap_nat (k := k) (by omega), nums, rowsS, nodes, zv, bv, sv, nv, bytesD, VL, VB, BEq.rfl, V1, V2, V3, V4, V5, V6, V7, V8, V9, V10, V11, V12, VE, Nat.reduceBEq, Nat.reduceAdd, Nat.reduceSub, Nat.reduceMul, Nat.reduceLeDiff, Nat.reduceLT, Nat.reduceEqDiff, Int.reduceBEq, Int.reduceBNe, Int.reduceLT, Int.reduceLE, Int.reduceAdd, Int.reduceSub, Int.reduceMul, kAgg, scD, List.all_cons, List.all_nil]
          refine ⟨k + 1, Enter.id ?_, by omega, by show L.length - (k + 1) < L.length - k; omega⟩
          simp only [has, nums, rowsS, nodes, zv, bv, sv, nv, bytesD, VL, VB, BEq.rfl, V1, V2, V3, V4, V5, V6, V7, V8, V9, V10, V11, V12, VE, Nat.reduceBEq, Nat.reduceAdd, Nat.reduceSub, Nat.reduceMul, Nat.reduceLeDiff, Nat.reduceLT, Nat.reduceEqDiff, Int.reduceBEq, Int.reduceBNe, Int.reduceLT, Int.reduceLE, Int.reduceAdd, Int.reduceSub, Int.reduceMul, kAgg, scD, List.all_cons, List.all_nil]
    have hk' : k = L.length := by
      have : ¬ k < L.length := by simpa using h
      omega
    subst hk'
    clear h
    simp only [nums, rowsS, nodes, zv, bv, sv, nv, bytesD, VL, VB, BEq.rfl, V1, V2, V3, V4, V5, V6, V7, V8, V9, V10, V11, V12, VE, Nat.reduceBEq, Nat.reduceAdd, Nat.reduceSub, Nat.reduceMul, Nat.reduceLeDiff, Nat.reduceLT, Nat.reduceEqDiff, Int.reduceBEq, Int.reduceBNe, Int.reduceLT, Int.reduceLE, Int.reduceAdd, Int.reduceSub, Int.reduceMul, kAgg, scD, List.all_cons, List.all_nil]
    refine CallX.mk (Cost_ok T M (castL A) hsm) rfl ?_
    rw [← hceA]
    obtain ⟨u, hu⟩ : ∃ u, cost A = u := ⟨_, rfl⟩
    obtain ⟨q, hq⟩ : ∃ q, errV T M (castL A) = q := ⟨_, rfl⟩
    obtain ⟨b, hb⟩ : ∃ b, agreeN L W A L.length = b := ⟨_, rfl⟩
    rw [hq] at hoi
    rw [hq, hb] at hokA
    rw [stepAcc, hu] at hstep
    simp only at hstep
    simp only [hu, hq, hb]
    simp only [bne, int_beq, nums, rowsS, nodes, zv, bv, sv, nv, bytesD, VL, VB, BEq.rfl, V1, V2, V3, V4, V5, V6, V7, V8, V9, V10, V11, V12, VE, Nat.reduceBEq, Nat.reduceAdd, Nat.reduceSub, Nat.reduceMul, Nat.reduceLeDiff, Nat.reduceLT, Nat.reduceEqDiff, Int.reduceBEq, Int.reduceBNe, Int.reduceLT, Int.reduceLE, Int.reduceAdd, Int.reduceSub, Int.reduceMul, kAgg, scD, List.all_cons, List.all_nil]
    have hs0 : A.getD 0 0 < n := by
      rw [getD_of 0 A 0 (by rw [hAl]; have := g.n0; omega)]
      exact hAd _ (List.getElem_mem _)
    obtain ⟨s, hs⟩ : ∃ s, A.getD 0 0 = s := ⟨_, rfl⟩
    have hsA : (castL A).getD 0 0 = (s : Int) := by rw [castL_at, hs]
    rw [hs] at hstep hs0
    have hn00 : 0 < (castL A).length := by rw [hcAl, hAl]; exact g.n0
    obtain ⟨x, hx⟩ : ∃ x, gv.getD s 0 = x := ⟨_, rfl⟩
    have hgs : givenS gv s u = if x < 0 ∨ u < x then gv.set s u else gv := by rw [givenS, hx]
    obtain ⟨G, hG⟩ : ∃ G, givenS gv s u = G := ⟨_, rfl⟩
    rw [hG] at hstep hgs
    have hone : ((gv.map num).getD s []).length = 1 := row_oneS gv s (by omega)
    have hGl : G.length = n := by
      rw [hgs]; split
      · rw [List.length_set]; exact hagl
      · exact hagl
    have hw11 : IntKind.i64.wrap 1 = 1 := wrap_in (by omega) (by omega)
    have hAl63 : A.length ≤ 63 := by omega
    rcases hoi with h0 | h5
    · subst h0
      rw [show decide ((0 : Int) = 0) = true from rfl, Bool.and_true] at hokA
      simp only [show decide ((0 : Int) = 0) = true from rfl, nums, rowsS, nodes, zv, bv, sv, nv, bytesD, VL, VB, BEq.rfl, V1, V2, V3, V4, V5, V6, V7, V8, V9, V10, V11, V12, VE, Nat.reduceBEq, Nat.reduceAdd, Nat.reduceSub, Nat.reduceMul, Nat.reduceLeDiff, Nat.reduceLT, Nat.reduceEqDiff, Int.reduceBEq, Int.reduceBNe, Int.reduceLT, Int.reduceLE, Int.reduceAdd, Int.reduceSub, Int.reduceMul, kAgg, scD, List.all_cons, List.all_nil]
      refine guardB.mk (fun h => ?_) (fun h => ?_) <;> simp only [h, nums, rowsS, nodes, zv, bv, sv, nv, bytesD, VL, VB, BEq.rfl, V1, V2, V3, V4, V5, V6, V7, V8, V9, V10, V11, V12, VE, Nat.reduceBEq, Nat.reduceAdd, Nat.reduceSub, Nat.reduceMul, Nat.reduceLeDiff, Nat.reduceLT, Nat.reduceEqDiff, Int.reduceBEq, Int.reduceBNe, Int.reduceLT, Int.reduceLE, Int.reduceAdd, Int.reduceSub, Int.reduceMul, kAgg, scD, List.all_cons, List.all_nil]
      · have hbf : b = false := by simpa using h
        rw [hbf] at hokA
        rw [if_neg (by rw [hokA]; simp)] at hstep
        refine CallX.mut (CallMVC.mk [] [(2001, 69)] (next_ok A n hn0 hn12 hAl63 hAd) ?_ ?_)
        · simp only [nums, rowsS, nodes, zv, bv, sv, nv, bytesD, VL, VB, BEq.rfl, V1, V2, V3, V4, V5, V6, V7, V8, V9, V10, V11, V12, VE, Nat.reduceBEq, Nat.reduceAdd, Nat.reduceSub, Nat.reduceMul, Nat.reduceLeDiff, Nat.reduceLT, Nat.reduceEqDiff, Int.reduceBEq, Int.reduceBNe, Int.reduceLT, Int.reduceLE, Int.reduceAdd, Int.reduceSub, Int.reduceMul, kAgg, scD, List.all_cons, List.all_nil]
        simp only [hnx1, hnx2, nums, rowsS, nodes, zv, bv, sv, nv, bytesD, VL, VB, BEq.rfl, V1, V2, V3, V4, V5, V6, V7, V8, V9, V10, V11, V12, VE, Nat.reduceBEq, Nat.reduceAdd, Nat.reduceSub, Nat.reduceMul, Nat.reduceLeDiff, Nat.reduceLT, Nat.reduceEqDiff, Int.reduceBEq, Int.reduceBNe, Int.reduceLT, Int.reduceLE, Int.reduceAdd, Int.reduceSub, Int.reduceMul, kAgg, scD, List.all_cons, List.all_nil]
        refine ⟨i + 1, Enter.mk [] [] [] ?_, by omega, by show S.length - (i + 1) < S.length - i; omega⟩
        simp only [hstep, hB, nums, rowsS, nodes, zv, bv, sv, nv, bytesD, VL, VB, BEq.rfl, V1, V2, V3, V4, V5, V6, V7, V8, V9, V10, V11, V12, VE, Nat.reduceBEq, Nat.reduceAdd, Nat.reduceSub, Nat.reduceMul, Nat.reduceLeDiff, Nat.reduceLT, Nat.reduceEqDiff, Int.reduceBEq, Int.reduceBNe, Int.reduceLT, Int.reduceLE, Int.reduceAdd, Int.reduceSub, Int.reduceMul, kAgg, scD, List.all_cons, List.all_nil]
      · have hbt : b = true := by simpa using h
        rw [hbt] at hokA
        rw [if_pos hokA] at hstep
        have hsg : s < gv.length := by omega
        have hgx := getD_num gv s hsg
        rw [hx] at hgx
        simp only [getD_num (castL A) 0 hn00, hsA, hgx, num_def, nums, rowsS, nodes, zv, bv, sv, nv, bytesD, VL, VB, BEq.rfl, V1, V2, V3, V4, V5, V6, V7, V8, V9, V10, V11, V12, VE, Nat.reduceBEq, Nat.reduceAdd, Nat.reduceSub, Nat.reduceMul, Nat.reduceLeDiff, Nat.reduceLT, Nat.reduceEqDiff, Int.reduceBEq, Int.reduceBNe, Int.reduceLT, Int.reduceLE, Int.reduceAdd, Int.reduceSub, Int.reduceMul, kAgg, scD, List.all_cons, List.all_nil]
        refine ⟨hn00, hn00, Int.natCast_nonneg s, hsg, hsg, ?_⟩
        refine guardB.mk (fun h => ?_) (fun h => ?_) <;> simp only [h, nums, rowsS, nodes, zv, bv, sv, nv, bytesD, VL, VB, BEq.rfl, V1, V2, V3, V4, V5, V6, V7, V8, V9, V10, V11, V12, VE, Nat.reduceBEq, Nat.reduceAdd, Nat.reduceSub, Nat.reduceMul, Nat.reduceLeDiff, Nat.reduceLT, Nat.reduceEqDiff, Int.reduceBEq, Int.reduceBNe, Int.reduceLT, Int.reduceLE, Int.reduceAdd, Int.reduceSub, Int.reduceMul, kAgg, scD, List.all_cons, List.all_nil]
        · have hx1 : x < 0 := by simpa using h
          rw [if_pos (by omega)] at hgs
          simp only [hgx, num_def, set_numS, ← hgs, nums, rowsS, nodes, zv, bv, sv, nv, bytesD, VL, VB, BEq.rfl, V1, V2, V3, V4, V5, V6, V7, V8, V9, V10, V11, V12, VE, Nat.reduceBEq, Nat.reduceAdd, Nat.reduceSub, Nat.reduceMul, Nat.reduceLeDiff, Nat.reduceLT, Nat.reduceEqDiff, Int.reduceBEq, Int.reduceBNe, Int.reduceLT, Int.reduceLE, Int.reduceAdd, Int.reduceSub, Int.reduceMul, kAgg, scD, List.all_cons, List.all_nil]
          refine ⟨Int.natCast_nonneg s, hsg, hsg, ?_⟩
          refine guardB.mk (fun h => ?_) (fun h => ?_) <;> simp only [h, nums, rowsS, nodes, zv, bv, sv, nv, bytesD, VL, VB, BEq.rfl, V1, V2, V3, V4, V5, V6, V7, V8, V9, V10, V11, V12, VE, Nat.reduceBEq, Nat.reduceAdd, Nat.reduceSub, Nat.reduceMul, Nat.reduceLeDiff, Nat.reduceLT, Nat.reduceEqDiff, Int.reduceBEq, Int.reduceBNe, Int.reduceLT, Int.reduceLE, Int.reduceAdd, Int.reduceSub, Int.reduceMul, kAgg, scD, List.all_cons, List.all_nil]
          · have h1 : lst < 0 := by simpa using h
            rw [if_pos (by omega)] at hstep
            refine CallX.mkF (clone_ok (castL A) (by omega)) rfl (sc_nums 3 _) ?_
            simp only [hw11, int_beq, decide_true, nums, rowsS, nodes, zv, bv, sv, nv, bytesD, VL, VB, BEq.rfl, V1, V2, V3, V4, V5, V6, V7, V8, V9, V10, V11, V12, VE, Nat.reduceBEq, Nat.reduceAdd, Nat.reduceSub, Nat.reduceMul, Nat.reduceLeDiff, Nat.reduceLT, Nat.reduceEqDiff, Int.reduceBEq, Int.reduceBNe, Int.reduceLT, Int.reduceLE, Int.reduceAdd, Int.reduceSub, Int.reduceMul, kAgg, scD, List.all_cons, List.all_nil]
            refine CallX.mut (CallMVC.mk [] [(2001, 69)] (next_ok A n hn0 hn12 hAl63 hAd) ?_ ?_)
            · simp only [nums, rowsS, nodes, zv, bv, sv, nv, bytesD, VL, VB, BEq.rfl, V1, V2, V3, V4, V5, V6, V7, V8, V9, V10, V11, V12, VE, Nat.reduceBEq, Nat.reduceAdd, Nat.reduceSub, Nat.reduceMul, Nat.reduceLeDiff, Nat.reduceLT, Nat.reduceEqDiff, Int.reduceBEq, Int.reduceBNe, Int.reduceLT, Int.reduceLE, Int.reduceAdd, Int.reduceSub, Int.reduceMul, kAgg, scD, List.all_cons, List.all_nil]
            simp only [hnx1, hnx2, nums, rowsS, nodes, zv, bv, sv, nv, bytesD, VL, VB, BEq.rfl, V1, V2, V3, V4, V5, V6, V7, V8, V9, V10, V11, V12, VE, Nat.reduceBEq, Nat.reduceAdd, Nat.reduceSub, Nat.reduceMul, Nat.reduceLeDiff, Nat.reduceLT, Nat.reduceEqDiff, Int.reduceBEq, Int.reduceBNe, Int.reduceLT, Int.reduceLE, Int.reduceAdd, Int.reduceSub, Int.reduceMul, kAgg, scD, List.all_cons, List.all_nil]
            refine ⟨i + 1, Enter.mk [] [149] [] ?_, by omega, by show S.length - (i + 1) < S.length - i; omega⟩
            simp only [hstep, hB, nums, rowsS, nodes, zv, bv, sv, nv, bytesD, VL, VB, BEq.rfl, V1, V2, V3, V4, V5, V6, V7, V8, V9, V10, V11, V12, VE, Nat.reduceBEq, Nat.reduceAdd, Nat.reduceSub, Nat.reduceMul, Nat.reduceLeDiff, Nat.reduceLT, Nat.reduceEqDiff, Int.reduceBEq, Int.reduceBNe, Int.reduceLT, Int.reduceLE, Int.reduceAdd, Int.reduceSub, Int.reduceMul, kAgg, scD, List.all_cons, List.all_nil]
          · have h1 : ¬ lst < 0 := by simpa using h
            refine guardB.mk (fun h => ?_) (fun h => ?_) <;> simp only [h, nums, rowsS, nodes, zv, bv, sv, nv, bytesD, VL, VB, BEq.rfl, V1, V2, V3, V4, V5, V6, V7, V8, V9, V10, V11, V12, VE, Nat.reduceBEq, Nat.reduceAdd, Nat.reduceSub, Nat.reduceMul, Nat.reduceLeDiff, Nat.reduceLT, Nat.reduceEqDiff, Int.reduceBEq, Int.reduceBNe, Int.reduceLT, Int.reduceLE, Int.reduceAdd, Int.reduceSub, Int.reduceMul, kAgg, scD, List.all_cons, List.all_nil]
            · have h2 : u < lst := by simpa using h
              rw [if_pos (by omega)] at hstep
              refine CallX.mkF (clone_ok (castL A) (by omega)) rfl (sc_nums 3 _) ?_
              simp only [hw11, int_beq, decide_true, nums, rowsS, nodes, zv, bv, sv, nv, bytesD, VL, VB, BEq.rfl, V1, V2, V3, V4, V5, V6, V7, V8, V9, V10, V11, V12, VE, Nat.reduceBEq, Nat.reduceAdd, Nat.reduceSub, Nat.reduceMul, Nat.reduceLeDiff, Nat.reduceLT, Nat.reduceEqDiff, Int.reduceBEq, Int.reduceBNe, Int.reduceLT, Int.reduceLE, Int.reduceAdd, Int.reduceSub, Int.reduceMul, kAgg, scD, List.all_cons, List.all_nil]
              refine CallX.mut (CallMVC.mk [] [(2001, 69)] (next_ok A n hn0 hn12 hAl63 hAd) ?_ ?_)
              · simp only [nums, rowsS, nodes, zv, bv, sv, nv, bytesD, VL, VB, BEq.rfl, V1, V2, V3, V4, V5, V6, V7, V8, V9, V10, V11, V12, VE, Nat.reduceBEq, Nat.reduceAdd, Nat.reduceSub, Nat.reduceMul, Nat.reduceLeDiff, Nat.reduceLT, Nat.reduceEqDiff, Int.reduceBEq, Int.reduceBNe, Int.reduceLT, Int.reduceLE, Int.reduceAdd, Int.reduceSub, Int.reduceMul, kAgg, scD, List.all_cons, List.all_nil]
              simp only [hnx1, hnx2, nums, rowsS, nodes, zv, bv, sv, nv, bytesD, VL, VB, BEq.rfl, V1, V2, V3, V4, V5, V6, V7, V8, V9, V10, V11, V12, VE, Nat.reduceBEq, Nat.reduceAdd, Nat.reduceSub, Nat.reduceMul, Nat.reduceLeDiff, Nat.reduceLT, Nat.reduceEqDiff, Int.reduceBEq, Int.reduceBNe, Int.reduceLT, Int.reduceLE, Int.reduceAdd, Int.reduceSub, Int.reduceMul, kAgg, scD, List.all_cons, List.all_nil]
              refine ⟨i + 1, Enter.mk [] [149] [] ?_, by omega, by show S.length - (i + 1) < S.length - i; omega⟩
              simp only [hstep, hB, nums, rowsS, nodes, zv, bv, sv, nv, bytesD, VL, VB, BEq.rfl, V1, V2, V3, V4, V5, V6, V7, V8, V9, V10, V11, V12, VE, Nat.reduceBEq, Nat.reduceAdd, Nat.reduceSub, Nat.reduceMul, Nat.reduceLeDiff, Nat.reduceLT, Nat.reduceEqDiff, Int.reduceBEq, Int.reduceBNe, Int.reduceLT, Int.reduceLE, Int.reduceAdd, Int.reduceSub, Int.reduceMul, kAgg, scD, List.all_cons, List.all_nil]
            · have h2 : ¬ u < lst := by simpa using h
              rw [if_neg (by omega)] at hstep
              have hww : IntKind.i64.wrap (ws + 1) = ws + 1 := wrap_in (by omega) (by omega)
              simp only [int_beq, nums, rowsS, nodes, zv, bv, sv, nv, bytesD, VL, VB, BEq.rfl, V1, V2, V3, V4, V5, V6, V7, V8, V9, V10, V11, V12, VE, Nat.reduceBEq, Nat.reduceAdd, Nat.reduceSub, Nat.reduceMul, Nat.reduceLeDiff, Nat.reduceLT, Nat.reduceEqDiff, Int.reduceBEq, Int.reduceBNe, Int.reduceLT, Int.reduceLE, Int.reduceAdd, Int.reduceSub, Int.reduceMul, kAgg, scD, List.all_cons, List.all_nil]
              refine guardB.mk (fun h => ?_) (fun h => ?_) <;> simp only [h, nums, rowsS, nodes, zv, bv, sv, nv, bytesD, VL, VB, BEq.rfl, V1, V2, V3, V4, V5, V6, V7, V8, V9, V10, V11, V12, VE, Nat.reduceBEq, Nat.reduceAdd, Nat.reduceSub, Nat.reduceMul, Nat.reduceLeDiff, Nat.reduceLT, Nat.reduceEqDiff, Int.reduceBEq, Int.reduceBNe, Int.reduceLT, Int.reduceLE, Int.reduceAdd, Int.reduceSub, Int.reduceMul, kAgg, scD, List.all_cons, List.all_nil]
              · have h3 : u = lst := by simpa using h
                rw [if_pos h3] at hstep
                simp only [hww, nums, rowsS, nodes, zv, bv, sv, nv, bytesD, VL, VB, BEq.rfl, V1, V2, V3, V4, V5, V6, V7, V8, V9, V10, V11, V12, VE, Nat.reduceBEq, Nat.reduceAdd, Nat.reduceSub, Nat.reduceMul, Nat.reduceLeDiff, Nat.reduceLT, Nat.reduceEqDiff, Int.reduceBEq, Int.reduceBNe, Int.reduceLT, Int.reduceLE, Int.reduceAdd, Int.reduceSub, Int.reduceMul, kAgg, scD, List.all_cons, List.all_nil]
                refine CallX.mut (CallMVC.mk [] [(2001, 69)] (next_ok A n hn0 hn12 hAl63 hAd) ?_ ?_)
                · simp only [nums, rowsS, nodes, zv, bv, sv, nv, bytesD, VL, VB, BEq.rfl, V1, V2, V3, V4, V5, V6, V7, V8, V9, V10, V11, V12, VE, Nat.reduceBEq, Nat.reduceAdd, Nat.reduceSub, Nat.reduceMul, Nat.reduceLeDiff, Nat.reduceLT, Nat.reduceEqDiff, Int.reduceBEq, Int.reduceBNe, Int.reduceLT, Int.reduceLE, Int.reduceAdd, Int.reduceSub, Int.reduceMul, kAgg, scD, List.all_cons, List.all_nil]
                simp only [hnx1, hnx2, nums, rowsS, nodes, zv, bv, sv, nv, bytesD, VL, VB, BEq.rfl, V1, V2, V3, V4, V5, V6, V7, V8, V9, V10, V11, V12, VE, Nat.reduceBEq, Nat.reduceAdd, Nat.reduceSub, Nat.reduceMul, Nat.reduceLeDiff, Nat.reduceLT, Nat.reduceEqDiff, Int.reduceBEq, Int.reduceBNe, Int.reduceLT, Int.reduceLE, Int.reduceAdd, Int.reduceSub, Int.reduceMul, kAgg, scD, List.all_cons, List.all_nil]
                refine ⟨i + 1, Enter.mk [] [] [] ?_, by omega, by show S.length - (i + 1) < S.length - i; omega⟩
                simp only [hstep, hB, nums, rowsS, nodes, zv, bv, sv, nv, bytesD, VL, VB, BEq.rfl, V1, V2, V3, V4, V5, V6, V7, V8, V9, V10, V11, V12, VE, Nat.reduceBEq, Nat.reduceAdd, Nat.reduceSub, Nat.reduceMul, Nat.reduceLeDiff, Nat.reduceLT, Nat.reduceEqDiff, Int.reduceBEq, Int.reduceBNe, Int.reduceLT, Int.reduceLE, Int.reduceAdd, Int.reduceSub, Int.reduceMul, kAgg, scD, List.all_cons, List.all_nil]
              · have h3 : u ≠ lst := by simpa using h
                rw [if_neg h3] at hstep
                refine CallX.mut (CallMVC.mk [] [(2001, 69)] (next_ok A n hn0 hn12 hAl63 hAd) ?_ ?_)
                · simp only [nums, rowsS, nodes, zv, bv, sv, nv, bytesD, VL, VB, BEq.rfl, V1, V2, V3, V4, V5, V6, V7, V8, V9, V10, V11, V12, VE, Nat.reduceBEq, Nat.reduceAdd, Nat.reduceSub, Nat.reduceMul, Nat.reduceLeDiff, Nat.reduceLT, Nat.reduceEqDiff, Int.reduceBEq, Int.reduceBNe, Int.reduceLT, Int.reduceLE, Int.reduceAdd, Int.reduceSub, Int.reduceMul, kAgg, scD, List.all_cons, List.all_nil]
                simp only [hnx1, hnx2, nums, rowsS, nodes, zv, bv, sv, nv, bytesD, VL, VB, BEq.rfl, V1, V2, V3, V4, V5, V6, V7, V8, V9, V10, V11, V12, VE, Nat.reduceBEq, Nat.reduceAdd, Nat.reduceSub, Nat.reduceMul, Nat.reduceLeDiff, Nat.reduceLT, Nat.reduceEqDiff, Int.reduceBEq, Int.reduceBNe, Int.reduceLT, Int.reduceLE, Int.reduceAdd, Int.reduceSub, Int.reduceMul, kAgg, scD, List.all_cons, List.all_nil]
                refine ⟨i + 1, Enter.mk [] [] [] ?_, by omega, by show S.length - (i + 1) < S.length - i; omega⟩
                simp only [hstep, hB, nums, rowsS, nodes, zv, bv, sv, nv, bytesD, VL, VB, BEq.rfl, V1, V2, V3, V4, V5, V6, V7, V8, V9, V10, V11, V12, VE, Nat.reduceBEq, Nat.reduceAdd, Nat.reduceSub, Nat.reduceMul, Nat.reduceLeDiff, Nat.reduceLT, Nat.reduceEqDiff, Int.reduceBEq, Int.reduceBNe, Int.reduceLT, Int.reduceLE, Int.reduceAdd, Int.reduceSub, Int.reduceMul, kAgg, scD, List.all_cons, List.all_nil]
        · have hx1 : ¬ x < 0 := by simpa using h
          simp only [hgx, num_def, nums, rowsS, nodes, zv, bv, sv, nv, bytesD, VL, VB, BEq.rfl, V1, V2, V3, V4, V5, V6, V7, V8, V9, V10, V11, V12, VE, Nat.reduceBEq, Nat.reduceAdd, Nat.reduceSub, Nat.reduceMul, Nat.reduceLeDiff, Nat.reduceLT, Nat.reduceEqDiff, Int.reduceBEq, Int.reduceBNe, Int.reduceLT, Int.reduceLE, Int.reduceAdd, Int.reduceSub, Int.reduceMul, kAgg, scD, List.all_cons, List.all_nil]
          refine ⟨Int.natCast_nonneg s, hsg, hsg, ?_⟩
          refine guardB.mk (fun h => ?_) (fun h => ?_) <;> simp only [h, nums, rowsS, nodes, zv, bv, sv, nv, bytesD, VL, VB, BEq.rfl, V1, V2, V3, V4, V5, V6, V7, V8, V9, V10, V11, V12, VE, Nat.reduceBEq, Nat.reduceAdd, Nat.reduceSub, Nat.reduceMul, Nat.reduceLeDiff, Nat.reduceLT, Nat.reduceEqDiff, Int.reduceBEq, Int.reduceBNe, Int.reduceLT, Int.reduceLE, Int.reduceAdd, Int.reduceSub, Int.reduceMul, kAgg, scD, List.all_cons, List.all_nil]
          · have hx2 : u < x := by simpa using h
            rw [if_pos (by omega)] at hgs
            simp only [hgx, num_def, set_numS, ← hgs, nums, rowsS, nodes, zv, bv, sv, nv, bytesD, VL, VB, BEq.rfl, V1, V2, V3, V4, V5, V6, V7, V8, V9, V10, V11, V12, VE, Nat.reduceBEq, Nat.reduceAdd, Nat.reduceSub, Nat.reduceMul, Nat.reduceLeDiff, Nat.reduceLT, Nat.reduceEqDiff, Int.reduceBEq, Int.reduceBNe, Int.reduceLT, Int.reduceLE, Int.reduceAdd, Int.reduceSub, Int.reduceMul, kAgg, scD, List.all_cons, List.all_nil]
            refine ⟨Int.natCast_nonneg s, hsg, hsg, ?_⟩
            refine guardB.mk (fun h => ?_) (fun h => ?_) <;> simp only [h, nums, rowsS, nodes, zv, bv, sv, nv, bytesD, VL, VB, BEq.rfl, V1, V2, V3, V4, V5, V6, V7, V8, V9, V10, V11, V12, VE, Nat.reduceBEq, Nat.reduceAdd, Nat.reduceSub, Nat.reduceMul, Nat.reduceLeDiff, Nat.reduceLT, Nat.reduceEqDiff, Int.reduceBEq, Int.reduceBNe, Int.reduceLT, Int.reduceLE, Int.reduceAdd, Int.reduceSub, Int.reduceMul, kAgg, scD, List.all_cons, List.all_nil]
            · have h1 : lst < 0 := by simpa using h
              rw [if_pos (by omega)] at hstep
              refine CallX.mkF (clone_ok (castL A) (by omega)) rfl (sc_nums 3 _) ?_
              simp only [hw11, int_beq, decide_true, nums, rowsS, nodes, zv, bv, sv, nv, bytesD, VL, VB, BEq.rfl, V1, V2, V3, V4, V5, V6, V7, V8, V9, V10, V11, V12, VE, Nat.reduceBEq, Nat.reduceAdd, Nat.reduceSub, Nat.reduceMul, Nat.reduceLeDiff, Nat.reduceLT, Nat.reduceEqDiff, Int.reduceBEq, Int.reduceBNe, Int.reduceLT, Int.reduceLE, Int.reduceAdd, Int.reduceSub, Int.reduceMul, kAgg, scD, List.all_cons, List.all_nil]
              refine CallX.mut (CallMVC.mk [] [(2001, 69)] (next_ok A n hn0 hn12 hAl63 hAd) ?_ ?_)
              · simp only [nums, rowsS, nodes, zv, bv, sv, nv, bytesD, VL, VB, BEq.rfl, V1, V2, V3, V4, V5, V6, V7, V8, V9, V10, V11, V12, VE, Nat.reduceBEq, Nat.reduceAdd, Nat.reduceSub, Nat.reduceMul, Nat.reduceLeDiff, Nat.reduceLT, Nat.reduceEqDiff, Int.reduceBEq, Int.reduceBNe, Int.reduceLT, Int.reduceLE, Int.reduceAdd, Int.reduceSub, Int.reduceMul, kAgg, scD, List.all_cons, List.all_nil]
              simp only [hnx1, hnx2, nums, rowsS, nodes, zv, bv, sv, nv, bytesD, VL, VB, BEq.rfl, V1, V2, V3, V4, V5, V6, V7, V8, V9, V10, V11, V12, VE, Nat.reduceBEq, Nat.reduceAdd, Nat.reduceSub, Nat.reduceMul, Nat.reduceLeDiff, Nat.reduceLT, Nat.reduceEqDiff, Int.reduceBEq, Int.reduceBNe, Int.reduceLT, Int.reduceLE, Int.reduceAdd, Int.reduceSub, Int.reduceMul, kAgg, scD, List.all_cons, List.all_nil]
              refine ⟨i + 1, Enter.mk [] [149] [] ?_, by omega, by show S.length - (i + 1) < S.length - i; omega⟩
              simp only [hstep, hB, nums, rowsS, nodes, zv, bv, sv, nv, bytesD, VL, VB, BEq.rfl, V1, V2, V3, V4, V5, V6, V7, V8, V9, V10, V11, V12, VE, Nat.reduceBEq, Nat.reduceAdd, Nat.reduceSub, Nat.reduceMul, Nat.reduceLeDiff, Nat.reduceLT, Nat.reduceEqDiff, Int.reduceBEq, Int.reduceBNe, Int.reduceLT, Int.reduceLE, Int.reduceAdd, Int.reduceSub, Int.reduceMul, kAgg, scD, List.all_cons, List.all_nil]
            · have h1 : ¬ lst < 0 := by simpa using h
              refine guardB.mk (fun h => ?_) (fun h => ?_) <;> simp only [h, nums, rowsS, nodes, zv, bv, sv, nv, bytesD, VL, VB, BEq.rfl, V1, V2, V3, V4, V5, V6, V7, V8, V9, V10, V11, V12, VE, Nat.reduceBEq, Nat.reduceAdd, Nat.reduceSub, Nat.reduceMul, Nat.reduceLeDiff, Nat.reduceLT, Nat.reduceEqDiff, Int.reduceBEq, Int.reduceBNe, Int.reduceLT, Int.reduceLE, Int.reduceAdd, Int.reduceSub, Int.reduceMul, kAgg, scD, List.all_cons, List.all_nil]
              · have h2 : u < lst := by simpa using h
                rw [if_pos (by omega)] at hstep
                refine CallX.mkF (clone_ok (castL A) (by omega)) rfl (sc_nums 3 _) ?_
                simp only [hw11, int_beq, decide_true, nums, rowsS, nodes, zv, bv, sv, nv, bytesD, VL, VB, BEq.rfl, V1, V2, V3, V4, V5, V6, V7, V8, V9, V10, V11, V12, VE, Nat.reduceBEq, Nat.reduceAdd, Nat.reduceSub, Nat.reduceMul, Nat.reduceLeDiff, Nat.reduceLT, Nat.reduceEqDiff, Int.reduceBEq, Int.reduceBNe, Int.reduceLT, Int.reduceLE, Int.reduceAdd, Int.reduceSub, Int.reduceMul, kAgg, scD, List.all_cons, List.all_nil]
                refine CallX.mut (CallMVC.mk [] [(2001, 69)] (next_ok A n hn0 hn12 hAl63 hAd) ?_ ?_)
                · simp only [nums, rowsS, nodes, zv, bv, sv, nv, bytesD, VL, VB, BEq.rfl, V1, V2, V3, V4, V5, V6, V7, V8, V9, V10, V11, V12, VE, Nat.reduceBEq, Nat.reduceAdd, Nat.reduceSub, Nat.reduceMul, Nat.reduceLeDiff, Nat.reduceLT, Nat.reduceEqDiff, Int.reduceBEq, Int.reduceBNe, Int.reduceLT, Int.reduceLE, Int.reduceAdd, Int.reduceSub, Int.reduceMul, kAgg, scD, List.all_cons, List.all_nil]
                simp only [hnx1, hnx2, nums, rowsS, nodes, zv, bv, sv, nv, bytesD, VL, VB, BEq.rfl, V1, V2, V3, V4, V5, V6, V7, V8, V9, V10, V11, V12, VE, Nat.reduceBEq, Nat.reduceAdd, Nat.reduceSub, Nat.reduceMul, Nat.reduceLeDiff, Nat.reduceLT, Nat.reduceEqDiff, Int.reduceBEq, Int.reduceBNe, Int.reduceLT, Int.reduceLE, Int.reduceAdd, Int.reduceSub, Int.reduceMul, kAgg, scD, List.all_cons, List.all_nil]
                refine ⟨i + 1, Enter.mk [] [149] [] ?_, by omega, by show S.length - (i + 1) < S.length - i; omega⟩
                simp only [hstep, hB, nums, rowsS, nodes, zv, bv, sv, nv, bytesD, VL, VB, BEq.rfl, V1, V2, V3, V4, V5, V6, V7, V8, V9, V10, V11, V12, VE, Nat.reduceBEq, Nat.reduceAdd, Nat.reduceSub, Nat.reduceMul, Nat.reduceLeDiff, Nat.reduceLT, Nat.reduceEqDiff, Int.reduceBEq, Int.reduceBNe, Int.reduceLT, Int.reduceLE, Int.reduceAdd, Int.reduceSub, Int.reduceMul, kAgg, scD, List.all_cons, List.all_nil]
              · have h2 : ¬ u < lst := by simpa using h
                rw [if_neg (by omega)] at hstep
                have hww : IntKind.i64.wrap (ws + 1) = ws + 1 := wrap_in (by omega) (by omega)
                simp only [int_beq, nums, rowsS, nodes, zv, bv, sv, nv, bytesD, VL, VB, BEq.rfl, V1, V2, V3, V4, V5, V6, V7, V8, V9, V10, V11, V12, VE, Nat.reduceBEq, Nat.reduceAdd, Nat.reduceSub, Nat.reduceMul, Nat.reduceLeDiff, Nat.reduceLT, Nat.reduceEqDiff, Int.reduceBEq, Int.reduceBNe, Int.reduceLT, Int.reduceLE, Int.reduceAdd, Int.reduceSub, Int.reduceMul, kAgg, scD, List.all_cons, List.all_nil]
                refine guardB.mk (fun h => ?_) (fun h => ?_) <;> simp only [h, nums, rowsS, nodes, zv, bv, sv, nv, bytesD, VL, VB, BEq.rfl, V1, V2, V3, V4, V5, V6, V7, V8, V9, V10, V11, V12, VE, Nat.reduceBEq, Nat.reduceAdd, Nat.reduceSub, Nat.reduceMul, Nat.reduceLeDiff, Nat.reduceLT, Nat.reduceEqDiff, Int.reduceBEq, Int.reduceBNe, Int.reduceLT, Int.reduceLE, Int.reduceAdd, Int.reduceSub, Int.reduceMul, kAgg, scD, List.all_cons, List.all_nil]
                · have h3 : u = lst := by simpa using h
                  rw [if_pos h3] at hstep
                  simp only [hww, nums, rowsS, nodes, zv, bv, sv, nv, bytesD, VL, VB, BEq.rfl, V1, V2, V3, V4, V5, V6, V7, V8, V9, V10, V11, V12, VE, Nat.reduceBEq, Nat.reduceAdd, Nat.reduceSub, Nat.reduceMul, Nat.reduceLeDiff, Nat.reduceLT, Nat.reduceEqDiff, Int.reduceBEq, Int.reduceBNe, Int.reduceLT, Int.reduceLE, Int.reduceAdd, Int.reduceSub, Int.reduceMul, kAgg, scD, List.all_cons, List.all_nil]
                  refine CallX.mut (CallMVC.mk [] [(2001, 69)] (next_ok A n hn0 hn12 hAl63 hAd) ?_ ?_)
                  · simp only [nums, rowsS, nodes, zv, bv, sv, nv, bytesD, VL, VB, BEq.rfl, V1, V2, V3, V4, V5, V6, V7, V8, V9, V10, V11, V12, VE, Nat.reduceBEq, Nat.reduceAdd, Nat.reduceSub, Nat.reduceMul, Nat.reduceLeDiff, Nat.reduceLT, Nat.reduceEqDiff, Int.reduceBEq, Int.reduceBNe, Int.reduceLT, Int.reduceLE, Int.reduceAdd, Int.reduceSub, Int.reduceMul, kAgg, scD, List.all_cons, List.all_nil]
                  simp only [hnx1, hnx2, nums, rowsS, nodes, zv, bv, sv, nv, bytesD, VL, VB, BEq.rfl, V1, V2, V3, V4, V5, V6, V7, V8, V9, V10, V11, V12, VE, Nat.reduceBEq, Nat.reduceAdd, Nat.reduceSub, Nat.reduceMul, Nat.reduceLeDiff, Nat.reduceLT, Nat.reduceEqDiff, Int.reduceBEq, Int.reduceBNe, Int.reduceLT, Int.reduceLE, Int.reduceAdd, Int.reduceSub, Int.reduceMul, kAgg, scD, List.all_cons, List.all_nil]
                  refine ⟨i + 1, Enter.mk [] [] [] ?_, by omega, by show S.length - (i + 1) < S.length - i; omega⟩
                  simp only [hstep, hB, nums, rowsS, nodes, zv, bv, sv, nv, bytesD, VL, VB, BEq.rfl, V1, V2, V3, V4, V5, V6, V7, V8, V9, V10, V11, V12, VE, Nat.reduceBEq, Nat.reduceAdd, Nat.reduceSub, Nat.reduceMul, Nat.reduceLeDiff, Nat.reduceLT, Nat.reduceEqDiff, Int.reduceBEq, Int.reduceBNe, Int.reduceLT, Int.reduceLE, Int.reduceAdd, Int.reduceSub, Int.reduceMul, kAgg, scD, List.all_cons, List.all_nil]
                · have h3 : u ≠ lst := by simpa using h
                  rw [if_neg h3] at hstep
                  refine CallX.mut (CallMVC.mk [] [(2001, 69)] (next_ok A n hn0 hn12 hAl63 hAd) ?_ ?_)
                  · simp only [nums, rowsS, nodes, zv, bv, sv, nv, bytesD, VL, VB, BEq.rfl, V1, V2, V3, V4, V5, V6, V7, V8, V9, V10, V11, V12, VE, Nat.reduceBEq, Nat.reduceAdd, Nat.reduceSub, Nat.reduceMul, Nat.reduceLeDiff, Nat.reduceLT, Nat.reduceEqDiff, Int.reduceBEq, Int.reduceBNe, Int.reduceLT, Int.reduceLE, Int.reduceAdd, Int.reduceSub, Int.reduceMul, kAgg, scD, List.all_cons, List.all_nil]
                  simp only [hnx1, hnx2, nums, rowsS, nodes, zv, bv, sv, nv, bytesD, VL, VB, BEq.rfl, V1, V2, V3, V4, V5, V6, V7, V8, V9, V10, V11, V12, VE, Nat.reduceBEq, Nat.reduceAdd, Nat.reduceSub, Nat.reduceMul, Nat.reduceLeDiff, Nat.reduceLT, Nat.reduceEqDiff, Int.reduceBEq, Int.reduceBNe, Int.reduceLT, Int.reduceLE, Int.reduceAdd, Int.reduceSub, Int.reduceMul, kAgg, scD, List.all_cons, List.all_nil]
                  refine ⟨i + 1, Enter.mk [] [] [] ?_, by omega, by show S.length - (i + 1) < S.length - i; omega⟩
                  simp only [hstep, hB, nums, rowsS, nodes, zv, bv, sv, nv, bytesD, VL, VB, BEq.rfl, V1, V2, V3, V4, V5, V6, V7, V8, V9, V10, V11, V12, VE, Nat.reduceBEq, Nat.reduceAdd, Nat.reduceSub, Nat.reduceMul, Nat.reduceLeDiff, Nat.reduceLT, Nat.reduceEqDiff, Int.reduceBEq, Int.reduceBNe, Int.reduceLT, Int.reduceLE, Int.reduceAdd, Int.reduceSub, Int.reduceMul, kAgg, scD, List.all_cons, List.all_nil]
          · have hx2 : ¬ u < x := by simpa using h
            rw [if_neg (by omega)] at hgs
            rw [hgs] at hstep
            refine guardB.mk (fun h => ?_) (fun h => ?_) <;> simp only [h, nums, rowsS, nodes, zv, bv, sv, nv, bytesD, VL, VB, BEq.rfl, V1, V2, V3, V4, V5, V6, V7, V8, V9, V10, V11, V12, VE, Nat.reduceBEq, Nat.reduceAdd, Nat.reduceSub, Nat.reduceMul, Nat.reduceLeDiff, Nat.reduceLT, Nat.reduceEqDiff, Int.reduceBEq, Int.reduceBNe, Int.reduceLT, Int.reduceLE, Int.reduceAdd, Int.reduceSub, Int.reduceMul, kAgg, scD, List.all_cons, List.all_nil]
            · have h1 : lst < 0 := by simpa using h
              rw [if_pos (by omega)] at hstep
              refine CallX.mkF (clone_ok (castL A) (by omega)) rfl (sc_nums 3 _) ?_
              simp only [hw11, int_beq, decide_true, nums, rowsS, nodes, zv, bv, sv, nv, bytesD, VL, VB, BEq.rfl, V1, V2, V3, V4, V5, V6, V7, V8, V9, V10, V11, V12, VE, Nat.reduceBEq, Nat.reduceAdd, Nat.reduceSub, Nat.reduceMul, Nat.reduceLeDiff, Nat.reduceLT, Nat.reduceEqDiff, Int.reduceBEq, Int.reduceBNe, Int.reduceLT, Int.reduceLE, Int.reduceAdd, Int.reduceSub, Int.reduceMul, kAgg, scD, List.all_cons, List.all_nil]
              refine CallX.mut (CallMVC.mk [] [(2001, 69)] (next_ok A n hn0 hn12 hAl63 hAd) ?_ ?_)
              · simp only [nums, rowsS, nodes, zv, bv, sv, nv, bytesD, VL, VB, BEq.rfl, V1, V2, V3, V4, V5, V6, V7, V8, V9, V10, V11, V12, VE, Nat.reduceBEq, Nat.reduceAdd, Nat.reduceSub, Nat.reduceMul, Nat.reduceLeDiff, Nat.reduceLT, Nat.reduceEqDiff, Int.reduceBEq, Int.reduceBNe, Int.reduceLT, Int.reduceLE, Int.reduceAdd, Int.reduceSub, Int.reduceMul, kAgg, scD, List.all_cons, List.all_nil]
              simp only [hnx1, hnx2, nums, rowsS, nodes, zv, bv, sv, nv, bytesD, VL, VB, BEq.rfl, V1, V2, V3, V4, V5, V6, V7, V8, V9, V10, V11, V12, VE, Nat.reduceBEq, Nat.reduceAdd, Nat.reduceSub, Nat.reduceMul, Nat.reduceLeDiff, Nat.reduceLT, Nat.reduceEqDiff, Int.reduceBEq, Int.reduceBNe, Int.reduceLT, Int.reduceLE, Int.reduceAdd, Int.reduceSub, Int.reduceMul, kAgg, scD, List.all_cons, List.all_nil]
              refine ⟨i + 1, Enter.mk [] [149] [] ?_, by omega, by show S.length - (i + 1) < S.length - i; omega⟩
              simp only [hstep, hB, nums, rowsS, nodes, zv, bv, sv, nv, bytesD, VL, VB, BEq.rfl, V1, V2, V3, V4, V5, V6, V7, V8, V9, V10, V11, V12, VE, Nat.reduceBEq, Nat.reduceAdd, Nat.reduceSub, Nat.reduceMul, Nat.reduceLeDiff, Nat.reduceLT, Nat.reduceEqDiff, Int.reduceBEq, Int.reduceBNe, Int.reduceLT, Int.reduceLE, Int.reduceAdd, Int.reduceSub, Int.reduceMul, kAgg, scD, List.all_cons, List.all_nil]
            · have h1 : ¬ lst < 0 := by simpa using h
              refine guardB.mk (fun h => ?_) (fun h => ?_) <;> simp only [h, nums, rowsS, nodes, zv, bv, sv, nv, bytesD, VL, VB, BEq.rfl, V1, V2, V3, V4, V5, V6, V7, V8, V9, V10, V11, V12, VE, Nat.reduceBEq, Nat.reduceAdd, Nat.reduceSub, Nat.reduceMul, Nat.reduceLeDiff, Nat.reduceLT, Nat.reduceEqDiff, Int.reduceBEq, Int.reduceBNe, Int.reduceLT, Int.reduceLE, Int.reduceAdd, Int.reduceSub, Int.reduceMul, kAgg, scD, List.all_cons, List.all_nil]
              · have h2 : u < lst := by simpa using h
                rw [if_pos (by omega)] at hstep
                refine CallX.mkF (clone_ok (castL A) (by omega)) rfl (sc_nums 3 _) ?_
                simp only [hw11, int_beq, decide_true, nums, rowsS, nodes, zv, bv, sv, nv, bytesD, VL, VB, BEq.rfl, V1, V2, V3, V4, V5, V6, V7, V8, V9, V10, V11, V12, VE, Nat.reduceBEq, Nat.reduceAdd, Nat.reduceSub, Nat.reduceMul, Nat.reduceLeDiff, Nat.reduceLT, Nat.reduceEqDiff, Int.reduceBEq, Int.reduceBNe, Int.reduceLT, Int.reduceLE, Int.reduceAdd, Int.reduceSub, Int.reduceMul, kAgg, scD, List.all_cons, List.all_nil]
                refine CallX.mut (CallMVC.mk [] [(2001, 69)] (next_ok A n hn0 hn12 hAl63 hAd) ?_ ?_)
                · simp only [nums, rowsS, nodes, zv, bv, sv, nv, bytesD, VL, VB, BEq.rfl, V1, V2, V3, V4, V5, V6, V7, V8, V9, V10, V11, V12, VE, Nat.reduceBEq, Nat.reduceAdd, Nat.reduceSub, Nat.reduceMul, Nat.reduceLeDiff, Nat.reduceLT, Nat.reduceEqDiff, Int.reduceBEq, Int.reduceBNe, Int.reduceLT, Int.reduceLE, Int.reduceAdd, Int.reduceSub, Int.reduceMul, kAgg, scD, List.all_cons, List.all_nil]
                simp only [hnx1, hnx2, nums, rowsS, nodes, zv, bv, sv, nv, bytesD, VL, VB, BEq.rfl, V1, V2, V3, V4, V5, V6, V7, V8, V9, V10, V11, V12, VE, Nat.reduceBEq, Nat.reduceAdd, Nat.reduceSub, Nat.reduceMul, Nat.reduceLeDiff, Nat.reduceLT, Nat.reduceEqDiff, Int.reduceBEq, Int.reduceBNe, Int.reduceLT, Int.reduceLE, Int.reduceAdd, Int.reduceSub, Int.reduceMul, kAgg, scD, List.all_cons, List.all_nil]
                refine ⟨i + 1, Enter.mk [] [149] [] ?_, by omega, by show S.length - (i + 1) < S.length - i; omega⟩
                simp only [hstep, hB, nums, rowsS, nodes, zv, bv, sv, nv, bytesD, VL, VB, BEq.rfl, V1, V2, V3, V4, V5, V6, V7, V8, V9, V10, V11, V12, VE, Nat.reduceBEq, Nat.reduceAdd, Nat.reduceSub, Nat.reduceMul, Nat.reduceLeDiff, Nat.reduceLT, Nat.reduceEqDiff, Int.reduceBEq, Int.reduceBNe, Int.reduceLT, Int.reduceLE, Int.reduceAdd, Int.reduceSub, Int.reduceMul, kAgg, scD, List.all_cons, List.all_nil]
              · have h2 : ¬ u < lst := by simpa using h
                rw [if_neg (by omega)] at hstep
                have hww : IntKind.i64.wrap (ws + 1) = ws + 1 := wrap_in (by omega) (by omega)
                simp only [int_beq, nums, rowsS, nodes, zv, bv, sv, nv, bytesD, VL, VB, BEq.rfl, V1, V2, V3, V4, V5, V6, V7, V8, V9, V10, V11, V12, VE, Nat.reduceBEq, Nat.reduceAdd, Nat.reduceSub, Nat.reduceMul, Nat.reduceLeDiff, Nat.reduceLT, Nat.reduceEqDiff, Int.reduceBEq, Int.reduceBNe, Int.reduceLT, Int.reduceLE, Int.reduceAdd, Int.reduceSub, Int.reduceMul, kAgg, scD, List.all_cons, List.all_nil]
                refine guardB.mk (fun h => ?_) (fun h => ?_) <;> simp only [h, nums, rowsS, nodes, zv, bv, sv, nv, bytesD, VL, VB, BEq.rfl, V1, V2, V3, V4, V5, V6, V7, V8, V9, V10, V11, V12, VE, Nat.reduceBEq, Nat.reduceAdd, Nat.reduceSub, Nat.reduceMul, Nat.reduceLeDiff, Nat.reduceLT, Nat.reduceEqDiff, Int.reduceBEq, Int.reduceBNe, Int.reduceLT, Int.reduceLE, Int.reduceAdd, Int.reduceSub, Int.reduceMul, kAgg, scD, List.all_cons, List.all_nil]
                · have h3 : u = lst := by simpa using h
                  rw [if_pos h3] at hstep
                  simp only [hww, nums, rowsS, nodes, zv, bv, sv, nv, bytesD, VL, VB, BEq.rfl, V1, V2, V3, V4, V5, V6, V7, V8, V9, V10, V11, V12, VE, Nat.reduceBEq, Nat.reduceAdd, Nat.reduceSub, Nat.reduceMul, Nat.reduceLeDiff, Nat.reduceLT, Nat.reduceEqDiff, Int.reduceBEq, Int.reduceBNe, Int.reduceLT, Int.reduceLE, Int.reduceAdd, Int.reduceSub, Int.reduceMul, kAgg, scD, List.all_cons, List.all_nil]
                  refine CallX.mut (CallMVC.mk [] [(2001, 69)] (next_ok A n hn0 hn12 hAl63 hAd) ?_ ?_)
                  · simp only [nums, rowsS, nodes, zv, bv, sv, nv, bytesD, VL, VB, BEq.rfl, V1, V2, V3, V4, V5, V6, V7, V8, V9, V10, V11, V12, VE, Nat.reduceBEq, Nat.reduceAdd, Nat.reduceSub, Nat.reduceMul, Nat.reduceLeDiff, Nat.reduceLT, Nat.reduceEqDiff, Int.reduceBEq, Int.reduceBNe, Int.reduceLT, Int.reduceLE, Int.reduceAdd, Int.reduceSub, Int.reduceMul, kAgg, scD, List.all_cons, List.all_nil]
                  simp only [hnx1, hnx2, nums, rowsS, nodes, zv, bv, sv, nv, bytesD, VL, VB, BEq.rfl, V1, V2, V3, V4, V5, V6, V7, V8, V9, V10, V11, V12, VE, Nat.reduceBEq, Nat.reduceAdd, Nat.reduceSub, Nat.reduceMul, Nat.reduceLeDiff, Nat.reduceLT, Nat.reduceEqDiff, Int.reduceBEq, Int.reduceBNe, Int.reduceLT, Int.reduceLE, Int.reduceAdd, Int.reduceSub, Int.reduceMul, kAgg, scD, List.all_cons, List.all_nil]
                  refine ⟨i + 1, Enter.mk [] [] [] ?_, by omega, by show S.length - (i + 1) < S.length - i; omega⟩
                  simp only [hstep, hB, nums, rowsS, nodes, zv, bv, sv, nv, bytesD, VL, VB, BEq.rfl, V1, V2, V3, V4, V5, V6, V7, V8, V9, V10, V11, V12, VE, Nat.reduceBEq, Nat.reduceAdd, Nat.reduceSub, Nat.reduceMul, Nat.reduceLeDiff, Nat.reduceLT, Nat.reduceEqDiff, Int.reduceBEq, Int.reduceBNe, Int.reduceLT, Int.reduceLE, Int.reduceAdd, Int.reduceSub, Int.reduceMul, kAgg, scD, List.all_cons, List.all_nil]
                · have h3 : u ≠ lst := by simpa using h
                  rw [if_neg h3] at hstep
                  refine CallX.mut (CallMVC.mk [] [(2001, 69)] (next_ok A n hn0 hn12 hAl63 hAd) ?_ ?_)
                  · simp only [nums, rowsS, nodes, zv, bv, sv, nv, bytesD, VL, VB, BEq.rfl, V1, V2, V3, V4, V5, V6, V7, V8, V9, V10, V11, V12, VE, Nat.reduceBEq, Nat.reduceAdd, Nat.reduceSub, Nat.reduceMul, Nat.reduceLeDiff, Nat.reduceLT, Nat.reduceEqDiff, Int.reduceBEq, Int.reduceBNe, Int.reduceLT, Int.reduceLE, Int.reduceAdd, Int.reduceSub, Int.reduceMul, kAgg, scD, List.all_cons, List.all_nil]
                  simp only [hnx1, hnx2, nums, rowsS, nodes, zv, bv, sv, nv, bytesD, VL, VB, BEq.rfl, V1, V2, V3, V4, V5, V6, V7, V8, V9, V10, V11, V12, VE, Nat.reduceBEq, Nat.reduceAdd, Nat.reduceSub, Nat.reduceMul, Nat.reduceLeDiff, Nat.reduceLT, Nat.reduceEqDiff, Int.reduceBEq, Int.reduceBNe, Int.reduceLT, Int.reduceLE, Int.reduceAdd, Int.reduceSub, Int.reduceMul, kAgg, scD, List.all_cons, List.all_nil]
                  refine ⟨i + 1, Enter.mk [] [] [] ?_, by omega, by show S.length - (i + 1) < S.length - i; omega⟩
                  simp only [hstep, hB, nums, rowsS, nodes, zv, bv, sv, nv, bytesD, VL, VB, BEq.rfl, V1, V2, V3, V4, V5, V6, V7, V8, V9, V10, V11, V12, VE, Nat.reduceBEq, Nat.reduceAdd, Nat.reduceSub, Nat.reduceMul, Nat.reduceLeDiff, Nat.reduceLT, Nat.reduceEqDiff, Int.reduceBEq, Int.reduceBNe, Int.reduceLT, Int.reduceLE, Int.reduceAdd, Int.reduceSub, Int.reduceMul, kAgg, scD, List.all_cons, List.all_nil]
    · subst h5
      rw [show decide ((5 : Int) = 0) = false from rfl, Bool.and_false] at hokA
      simp only [show decide ((5 : Int) = 0) = false from rfl, show decide ((5 : Int) = 5) = true from rfl, nums, rowsS, nodes, zv, bv, sv, nv, bytesD, VL, VB, BEq.rfl, V1, V2, V3, V4, V5, V6, V7, V8, V9, V10, V11, V12, VE, Nat.reduceBEq, Nat.reduceAdd, Nat.reduceSub, Nat.reduceMul, Nat.reduceLeDiff, Nat.reduceLT, Nat.reduceEqDiff, Int.reduceBEq, Int.reduceBNe, Int.reduceLT, Int.reduceLE, Int.reduceAdd, Int.reduceSub, Int.reduceMul, kAgg, scD, List.all_cons, List.all_nil]
      refine guardB.mk (fun h => ?_) (fun h => ?_) <;> simp only [h, show decide ((5 : Int) = 0) = false from rfl, nums, rowsS, nodes, zv, bv, sv, nv, bytesD, VL, VB, BEq.rfl, V1, V2, V3, V4, V5, V6, V7, V8, V9, V10, V11, V12, VE, Nat.reduceBEq, Nat.reduceAdd, Nat.reduceSub, Nat.reduceMul, Nat.reduceLeDiff, Nat.reduceLT, Nat.reduceEqDiff, Int.reduceBEq, Int.reduceBNe, Int.reduceLT, Int.reduceLE, Int.reduceAdd, Int.reduceSub, Int.reduceMul, kAgg, scD, List.all_cons, List.all_nil]
      · skip
        rw [if_neg (by rw [hokA]; simp)] at hstep
        refine CallX.mut (CallMVC.mk [] [(2001, 69)] (next_ok A n hn0 hn12 hAl63 hAd) ?_ ?_)
        · simp only [nums, rowsS, nodes, zv, bv, sv, nv, bytesD, VL, VB, BEq.rfl, V1, V2, V3, V4, V5, V6, V7, V8, V9, V10, V11, V12, VE, Nat.reduceBEq, Nat.reduceAdd, Nat.reduceSub, Nat.reduceMul, Nat.reduceLeDiff, Nat.reduceLT, Nat.reduceEqDiff, Int.reduceBEq, Int.reduceBNe, Int.reduceLT, Int.reduceLE, Int.reduceAdd, Int.reduceSub, Int.reduceMul, kAgg, scD, List.all_cons, List.all_nil]
        simp only [hnx1, hnx2, nums, rowsS, nodes, zv, bv, sv, nv, bytesD, VL, VB, BEq.rfl, V1, V2, V3, V4, V5, V6, V7, V8, V9, V10, V11, V12, VE, Nat.reduceBEq, Nat.reduceAdd, Nat.reduceSub, Nat.reduceMul, Nat.reduceLeDiff, Nat.reduceLT, Nat.reduceEqDiff, Int.reduceBEq, Int.reduceBNe, Int.reduceLT, Int.reduceLE, Int.reduceAdd, Int.reduceSub, Int.reduceMul, kAgg, scD, List.all_cons, List.all_nil]
        refine ⟨i + 1, Enter.mk [] [] [] ?_, by omega, by show S.length - (i + 1) < S.length - i; omega⟩
        simp only [hstep, hB, nums, rowsS, nodes, zv, bv, sv, nv, bytesD, VL, VB, BEq.rfl, V1, V2, V3, V4, V5, V6, V7, V8, V9, V10, V11, V12, VE, Nat.reduceBEq, Nat.reduceAdd, Nat.reduceSub, Nat.reduceMul, Nat.reduceLeDiff, Nat.reduceLT, Nat.reduceEqDiff, Int.reduceBEq, Int.reduceBNe, Int.reduceLT, Int.reduceLE, Int.reduceAdd, Int.reduceSub, Int.reduceMul, kAgg, scD, List.all_cons, List.all_nil]
      · skip
        rw [if_neg (by rw [hokA]; simp)] at hstep
        refine CallX.mut (CallMVC.mk [] [(2001, 69)] (next_ok A n hn0 hn12 hAl63 hAd) ?_ ?_)
        · simp only [nums, rowsS, nodes, zv, bv, sv, nv, bytesD, VL, VB, BEq.rfl, V1, V2, V3, V4, V5, V6, V7, V8, V9, V10, V11, V12, VE, Nat.reduceBEq, Nat.reduceAdd, Nat.reduceSub, Nat.reduceMul, Nat.reduceLeDiff, Nat.reduceLT, Nat.reduceEqDiff, Int.reduceBEq, Int.reduceBNe, Int.reduceLT, Int.reduceLE, Int.reduceAdd, Int.reduceSub, Int.reduceMul, kAgg, scD, List.all_cons, List.all_nil]
        simp only [hnx1, hnx2, nums, rowsS, nodes, zv, bv, sv, nv, bytesD, VL, VB, BEq.rfl, V1, V2, V3, V4, V5, V6, V7, V8, V9, V10, V11, V12, VE, Nat.reduceBEq, Nat.reduceAdd, Nat.reduceSub, Nat.reduceMul, Nat.reduceLeDiff, Nat.reduceLT, Nat.reduceEqDiff, Int.reduceBEq, Int.reduceBNe, Int.reduceLT, Int.reduceLE, Int.reduceAdd, Int.reduceSub, Int.reduceMul, kAgg, scD, List.all_cons, List.all_nil]
        refine ⟨i + 1, Enter.mk [] [] [] ?_, by omega, by show S.length - (i + 1) < S.length - i; omega⟩
        simp only [hstep, hB, nums, rowsS, nodes, zv, bv, sv, nv, bytesD, VL, VB, BEq.rfl, V1, V2, V3, V4, V5, V6, V7, V8, V9, V10, V11, V12, VE, Nat.reduceBEq, Nat.reduceAdd, Nat.reduceSub, Nat.reduceMul, Nat.reduceLeDiff, Nat.reduceLT, Nat.reduceEqDiff, Int.reduceBEq, Int.reduceBNe, Int.reduceLT, Int.reduceLE, Int.reduceAdd, Int.reduceSub, Int.reduceMul, kAgg, scD, List.all_cons, List.all_nil]
  · have hk' : i = S.length := by
      have : ¬ i < S.length := by simpa using h
      omega
    subst hk'
    clear h
    rw [List.take_length] at haw haf hagl ⊢
    obtain ⟨a, ha⟩ : ∃ a, accTo ok cost n S = a := ⟨_, rfl⟩
    rw [ha] at hfin haw haf hagl
    simp only [ha]
    obtain ⟨lst, ws, fst, gv⟩ := a
    simp only at hfin haw haf hagl
    obtain ⟨hf1, hf2, hf3⟩ := hfin
    have hgvl : gv.length = n := hagl
    simp only [nums, rowsS, nodes, zv, bv, sv, nv, bytesD, VL, VB, BEq.rfl, V1, V2, V3, V4, V5, V6, V7, V8, V9, V10, V11, V12, VE, Nat.reduceBEq, Nat.reduceAdd, Nat.reduceSub, Nat.reduceMul, Nat.reduceLeDiff, Nat.reduceLT, Nat.reduceEqDiff, Int.reduceBEq, Int.reduceBNe, Int.reduceLT, Int.reduceLE, Int.reduceAdd, Int.reduceSub, Int.reduceMul, kAgg, scD, List.all_cons, List.all_nil]
    refine LoopVC.mk (Y := Nat) (fun k => k ≤ n) (fun k => ⟨[(10, .c (nodes T)), (12, .c (rowsS M)), (13, .osl 55 0), (14, zv lst), (15, zv ws), (16, .c (nums fst)), (27, .osl 1000 0), (155, .osl 57 0), (156, nv n), (157, nv k)], [(55, .arr 3 0 (W.map num)), (57, .arr 2 0 (gv.map num)), (1000, .arr 3 0 ((rootsA F lst k).map num))]⟩) (fun k => n - k) ⟨0, Enter.mk [(27, (1000, 3))] [] [] ?_, by omega⟩ ?_
    · simp only [hgvl, nums, rowsS, nodes, zv, bv, sv, nv, bytesD, VL, VB, BEq.rfl, V1, V2, V3, V4, V5, V6, V7, V8, V9, V10, V11, V12, VE, Nat.reduceBEq, Nat.reduceAdd, Nat.reduceSub, Nat.reduceMul, Nat.reduceLeDiff, Nat.reduceLT, Nat.reduceEqDiff, Int.reduceBEq, Int.reduceBNe, Int.reduceLT, Int.reduceLE, Int.reduceAdd, Int.reduceSub, Int.reduceMul, kAgg, scD, List.all_cons, List.all_nil]
      exact ⟨rfl, ⟨rfl, rfl⟩, rfl⟩
    intro k hk
    simp only [lt_nat, nums, rowsS, nodes, zv, bv, sv, nv, bytesD, VL, VB, BEq.rfl, V1, V2, V3, V4, V5, V6, V7, V8, V9, V10, V11, V12, VE, Nat.reduceBEq, Nat.reduceAdd, Nat.reduceSub, Nat.reduceMul, Nat.reduceLeDiff, Nat.reduceLT, Nat.reduceEqDiff, Int.reduceBEq, Int.reduceBNe, Int.reduceLT, Int.reduceLE, Int.reduceAdd, Int.reduceSub, Int.reduceMul, kAgg, scD, List.all_cons, List.all_nil]
    refine guardB.mk (fun h => ?_) (fun h => ?_)
    · have hk' : k < n := by simpa using h
      clear h
      have hkg : k < gv.length := by omega
      have hgx := getD_num gv k hkg
      have hgF := hf2 k hk'
      have hra := rootsA_succ F lst k
      have hrl := rootsA_len F lst k
      have hFb := hbd k
      have heg := heg k hk'
      have hgv := hgv k
      obtain ⟨x, hx⟩ : ∃ x, F k = x := ⟨_, rfl⟩
      rw [hx] at hgF hra hFb heg hgv
      rw [hgF] at hgx
      simp only [hgx, num_def, nums, rowsS, nodes, zv, bv, sv, nv, bytesD, VL, VB, BEq.rfl, V1, V2, V3, V4, V5, V6, V7, V8, V9, V10, V11, V12, VE, Nat.reduceBEq, Nat.reduceAdd, Nat.reduceSub, Nat.reduceMul, Nat.reduceLeDiff, Nat.reduceLT, Nat.reduceEqDiff, Int.reduceBEq, Int.reduceBNe, Int.reduceLT, Int.reduceLE, Int.reduceAdd, Int.reduceSub, Int.reduceMul, kAgg, scD, List.all_cons, List.all_nil]
      refine ⟨Int.natCast_nonneg k, hkg, hkg, ?_⟩
      refine CallX.mk (Given_ok T M W (k : Int) hsm) rfl ?_
      by_cases hx1 : x = -1
      · rw [if_pos hx1] at heg
        rw [heg, if_neg (by decide)] at hgv
        rw [if_neg (by omega)] at hra
        simp only [heg, hgv, hx1, bne, int_beq, wrap_nat (k := k) (by omega), nums, rowsS, nodes, zv, bv, sv, nv, bytesD, VL, VB, BEq.rfl, V1, V2, V3, V4, V5, V6, V7, V8, V9, V10, V11, V12, VE, Nat.reduceBEq, Nat.reduceAdd, Nat.reduceSub, Nat.reduceMul, Nat.reduceLeDiff, Nat.reduceLT, Nat.reduceEqDiff, Int.reduceBEq, Int.reduceBNe, Int.reduceLT, Int.reduceLE, Int.reduceAdd, Int.reduceSub, Int.reduceMul, kAgg, scD, List.all_cons, List.all_nil]
        refine ⟨k + 1, Enter.id ?_, by omega, by show n - (k + 1) < n - k; omega⟩
        simp only [hra, nums, rowsS, nodes, zv, bv, sv, nv, bytesD, VL, VB, BEq.rfl, V1, V2, V3, V4, V5, V6, V7, V8, V9, V10, V11, V12, VE, Nat.reduceBEq, Nat.reduceAdd, Nat.reduceSub, Nat.reduceMul, Nat.reduceLeDiff, Nat.reduceLT, Nat.reduceEqDiff, Int.reduceBEq, Int.reduceBNe, Int.reduceLT, Int.reduceLE, Int.reduceAdd, Int.reduceSub, Int.reduceMul, kAgg, scD, List.all_cons, List.all_nil]
      · rw [if_neg hx1] at heg
        rw [heg, if_pos rfl] at hgv
        have hx0 : 0 ≤ x := by omega
        simp only [heg, hgv, decide_eq_true hx0, decide_eq_false (show ¬ x < 0 by omega), bne_self_eq_false, int_beq, nums, rowsS, nodes, zv, bv, sv, nv, bytesD, VL, VB, BEq.rfl, V1, V2, V3, V4, V5, V6, V7, V8, V9, V10, V11, V12, VE, Nat.reduceBEq, Nat.reduceAdd, Nat.reduceSub, Nat.reduceMul, Nat.reduceLeDiff, Nat.reduceLT, Nat.reduceEqDiff, Int.reduceBEq, Int.reduceBNe, Int.reduceLT, Int.reduceLE, Int.reduceAdd, Int.reduceSub, Int.reduceMul, kAgg, scD, List.all_cons, List.all_nil]
        refine guardB.mk (fun h => ?_) (fun h => ?_) <;> simp only [h, wrap_nat (k := k) (by omega), nums, rowsS, nodes, zv, bv, sv, nv, bytesD, VL, VB, BEq.rfl, V1, V2, V3, V4, V5, V6, V7, V8, V9, V10, V11, V12, VE, Nat.reduceBEq, Nat.reduceAdd, Nat.reduceSub, Nat.reduceMul, Nat.reduceLeDiff, Nat.reduceLT, Nat.reduceEqDiff, Int.reduceBEq, Int.reduceBNe, Int.reduceLT, Int.reduceLE, Int.reduceAdd, Int.reduceSub, Int.reduceMul, kAgg, scD, List.all_cons, List.all_nil]
        · have h : x = lst := by simpa using h
          rw [if_pos ⟨hx0, h⟩] at hra
          refine ⟨⟨by omega, allLen_num [(k : Int)]⟩, k + 1, Enter.id ?_, by omega, by show n - (k + 1) < n - k; omega⟩
          simp only [hra, num_def, nums, rowsS, nodes, zv, bv, sv, nv, bytesD, VL, VB, BEq.rfl, V1, V2, V3, V4, V5, V6, V7, V8, V9, V10, V11, V12, VE, Nat.reduceBEq, Nat.reduceAdd, Nat.reduceSub, Nat.reduceMul, Nat.reduceLeDiff, Nat.reduceLT, Nat.reduceEqDiff, Int.reduceBEq, Int.reduceBNe, Int.reduceLT, Int.reduceLE, Int.reduceAdd, Int.reduceSub, Int.reduceMul, kAgg, scD, List.all_cons, List.all_nil]
        · have h : x ≠ lst := by simpa using h
          rw [if_neg (fun e => h e.2)] at hra
          refine ⟨k + 1, Enter.id ?_, by omega, by show n - (k + 1) < n - k; omega⟩
          simp only [hra, nums, rowsS, nodes, zv, bv, sv, nv, bytesD, VL, VB, BEq.rfl, V1, V2, V3, V4, V5, V6, V7, V8, V9, V10, V11, V12, VE, Nat.reduceBEq, Nat.reduceAdd, Nat.reduceSub, Nat.reduceMul, Nat.reduceLeDiff, Nat.reduceLT, Nat.reduceEqDiff, Int.reduceBEq, Int.reduceBNe, Int.reduceLT, Int.reduceLE, Int.reduceAdd, Int.reduceSub, Int.reduceMul, kAgg, scD, List.all_cons, List.all_nil]
    have hk' : k = n := by
      have : ¬ k < n := by simpa using h
      omega
    rw [hk']
    clear h
    simp only [nums, rowsS, nodes, zv, bv, sv, nv, bytesD, VL, VB, BEq.rfl, V1, V2, V3, V4, V5, V6, V7, V8, V9, V10, V11, V12, VE, Nat.reduceBEq, Nat.reduceAdd, Nat.reduceSub, Nat.reduceMul, Nat.reduceLeDiff, Nat.reduceLT, Nat.reduceEqDiff, Int.reduceBEq, Int.reduceBNe, Int.reduceLT, Int.reduceLE, Int.reduceAdd, Int.reduceSub, Int.reduceMul, kAgg, scD, List.all_cons, List.all_nil]
    refine CallX.mk (Min_ok T M W hsm) rfl ?_
    simp only [nums, rowsS, nodes, zv, bv, sv, nv, bytesD, VL, VB, BEq.rfl, V1, V2, V3, V4, V5, V6, V7, V8, V9, V10, V11, V12, VE, Nat.reduceBEq, Nat.reduceAdd, Nat.reduceSub, Nat.reduceMul, Nat.reduceLeDiff, Nat.reduceLT, Nat.reduceEqDiff, Int.reduceBEq, Int.reduceBNe, Int.reduceLT, Int.reduceLE, Int.reduceAdd, Int.reduceSub, Int.reduceMul, kAgg, scD, List.all_cons, List.all_nil]
    refine CallX.mk (Best_ok T M W hsm) rfl ?_
    simp only [nums, rowsS, nodes, zv, bv, sv, nv, bytesD, VL, VB, BEq.rfl, V1, V2, V3, V4, V5, V6, V7, V8, V9, V10, V11, V12, VE, Nat.reduceBEq, Nat.reduceAdd, Nat.reduceSub, Nat.reduceMul, Nat.reduceLeDiff, Nat.reduceLT, Nat.reduceEqDiff, Int.reduceBEq, Int.reduceBNe, Int.reduceLT, Int.reduceLE, Int.reduceAdd, Int.reduceSub, Int.reduceMul, kAgg, scD, List.all_cons, List.all_nil]
    refine CallX.mk (Ways_ok T M W hsm) rfl ?_
    simp only [nums, rowsS, nodes, zv, bv, sv, nv, bytesD, VL, VB, BEq.rfl, V1, V2, V3, V4, V5, V6, V7, V8, V9, V10, V11, V12, VE, Nat.reduceBEq, Nat.reduceAdd, Nat.reduceSub, Nat.reduceMul, Nat.reduceLeDiff, Nat.reduceLT, Nat.reduceEqDiff, Int.reduceBEq, Int.reduceBNe, Int.reduceLT, Int.reduceLE, Int.reduceAdd, Int.reduceSub, Int.reduceMul, kAgg, scD, List.all_cons, List.all_nil]
    refine CallX.mk (Roots_ok T M W hsm) rfl ?_
    rcases hf3 with ⟨e1, e2⟩ | ⟨e1, e2, e3, e4, e5⟩
    · rw [e2] at hev hmv hbv hrv
      rw [if_neg (by decide)] at hev hmv hbv hrv
      rw [hev, if_neg (by decide)] at hwv
      have hw00 : IntKind.i64.wrap (((0 : Nat) : Int) + ((0 : Nat) : Int)) = 0 := wrap_in (by omega) (by omega)
      simp only [e1, e2, hev, hmv, hbv, hrv, hwv, int_beq, hw00, nums, rowsS, nodes, zv, bv, sv, nv, bytesD, VL, VB, BEq.rfl, V1, V2, V3, V4, V5, V6, V7, V8, V9, V10, V11, V12, VE, Nat.reduceBEq, Nat.reduceAdd, Nat.reduceSub, Nat.reduceMul, Nat.reduceLeDiff, Nat.reduceLT, Nat.reduceEqDiff, Int.reduceBEq, Int.reduceBNe, Int.reduceLT, Int.reduceLE, Int.reduceAdd, Int.reduceSub, Int.reduceMul, kAgg, scD, List.all_cons, List.all_nil]
      refine CallX.mk works_ok rfl ?_
      simp only [nums, rowsS, nodes, zv, bv, sv, nv, bytesD, VL, VB, BEq.rfl, V1, V2, V3, V4, V5, V6, V7, V8, V9, V10, V11, V12, VE, Nat.reduceBEq, Nat.reduceAdd, Nat.reduceSub, Nat.reduceMul, Nat.reduceLeDiff, Nat.reduceLT, Nat.reduceEqDiff, Int.reduceBEq, Int.reduceBNe, Int.reduceLT, Int.reduceLE, Int.reduceAdd, Int.reduceSub, Int.reduceMul, kAgg, scD, List.all_cons, List.all_nil]
    · rw [e2, if_pos rfl] at hev hrv hmv
      have hwl : waysN T M W < 9223372036854775808 := by omega
      rw [if_pos hwl] at hev
      rw [hev, if_pos rfl, ← e4] at hwv
      have hlr : lst = (rootP T M W).1 := by rw [e3, hmv]
      have hrr := hrt lst n e1 hlr
      rw [hml, ← hrr] at hrv
      simp only [decide_eq_false (show ¬ lst < 0 by omega), ← e3, ← e5, e2, hev, hrv, hwv, int_beq, decide_true, nums, rowsS, nodes, zv, bv, sv, nv, bytesD, VL, VB, BEq.rfl, V1, V2, V3, V4, V5, V6, V7, V8, V9, V10, V11, V12, VE, Nat.reduceBEq, Nat.reduceAdd, Nat.reduceSub, Nat.reduceMul, Nat.reduceLeDiff, Nat.reduceLT, Nat.reduceEqDiff, Int.reduceBEq, Int.reduceBNe, Int.reduceLT, Int.reduceLE, Int.reduceAdd, Int.reduceSub, Int.reduceMul, kAgg, scD, List.all_cons, List.all_nil]
      refine CallX.mk (equal_ok fst fst) rfl ?_
      simp only [int_beq, decide_true, nums, rowsS, nodes, zv, bv, sv, nv, bytesD, VL, VB, BEq.rfl, V1, V2, V3, V4, V5, V6, V7, V8, V9, V10, V11, V12, VE, Nat.reduceBEq, Nat.reduceAdd, Nat.reduceSub, Nat.reduceMul, Nat.reduceLeDiff, Nat.reduceLT, Nat.reduceEqDiff, Int.reduceBEq, Int.reduceBNe, Int.reduceLT, Int.reduceLE, Int.reduceAdd, Int.reduceSub, Int.reduceMul, kAgg, scD, List.all_cons, List.all_nil]
      refine CallX.mk (equal_ok (rootsA F lst n) (rootsA F lst n)) rfl ?_
      simp only [decide_true, nums, rowsS, nodes, zv, bv, sv, nv, bytesD, VL, VB, BEq.rfl, V1, V2, V3, V4, V5, V6, V7, V8, V9, V10, V11, V12, VE, Nat.reduceBEq, Nat.reduceAdd, Nat.reduceSub, Nat.reduceMul, Nat.reduceLeDiff, Nat.reduceLT, Nat.reduceEqDiff, Int.reduceBEq, Int.reduceBNe, Int.reduceLT, Int.reduceLE, Int.reduceAdd, Int.reduceSub, Int.reduceMul, kAgg, scD, List.all_cons, List.all_nil]
      refine CallX.mk works_ok rfl ?_
      simp only [nums, rowsS, nodes, zv, bv, sv, nv, bytesD, VL, VB, BEq.rfl, V1, V2, V3, V4, V5, V6, V7, V8, V9, V10, V11, V12, VE, Nat.reduceBEq, Nat.reduceAdd, Nat.reduceSub, Nat.reduceMul, Nat.reduceLeDiff, Nat.reduceLT, Nat.reduceEqDiff, Int.reduceBEq, Int.reduceBNe, Int.reduceLT, Int.reduceLE, Int.reduceAdd, Int.reduceSub, Int.reduceMul, kAgg, scD, List.all_cons, List.all_nil]

end Go.Cp
namespace Go.Proofs.Ytfalggfambgkeaa
open Go Go.Proofs Go.RowKit Go.ChangeShapes Go.WideShapes Go.ChangeAt Go.Vx Go.Cp

theorem sankoffAll_lifted (os : Os) (started : os.Started) (H : Type) (enc : TypeId × Value → H) :
    ReturnsInHanded {} Try.checked os 12 .any (Rows.sankoffAllSpec.pre6 enc Try.prog Try.f12 Rows.sankoffAllRow.domain false) (Rows.sankoffAllSpec.post enc Try.prog Try.f12 false true false false) := by
  refine law_lifted (m := 8) (tb := 4) os started H enc own laid (by kernel_rfl) Try.func12 rfl Try.underlying4 rfl ?_ (by kernel_rfl) (by kernel_rfl)
    (ChangeSpec.witness6 (enc := enc) (C := Try.checked) false ⟨#[], #[.slice none 0 0, .slice none 0 0, .slice none 0 0, .int .u8 0], []⟩ 8 (by kernel_rfl) (by kernel_rfl) (by kernel_rfl) (by kernel_rfl)) ?_
  · rw [Try.params12]
    intro ds hd
    match ds, hd with
    | [d1, d2, d3, d4], _ => exact ⟨rfl, rfl, rfl⟩
  · rw [Try.params12]
    intro dss h
    obtain ⟨x1, x2, x3, x4, rfl, h1, h2, h3, h4⟩ := typedL4 h
    obtain ⟨ps, rfl, hp, hpl⟩ := typed_bytes (m := 6) h1
    obtain ⟨cs, rfl, hcs, _⟩ := typed_bytes (m := 6) h2
    obtain ⟨ss, rfl, hss, _⟩ := typed_bytes (m := 6) h3
    obtain ⟨c, rfl, hc⟩ := typed_byte (m := 7) h4
    simp only [argsAV, argAV, Try.underlying22, Try.underlying5]
    exact all_law ps cs ss c hp hpl hcs hss hc

theorem sankoffAll_holds : Rows.SankoffAllSaid :=
  OpenClaim.holds_of_wide 12 Try.f12 rfl rfl rfl rfl rfl rfl rfl ⟨rfl, rfl, rfl, rfl, rfl⟩ rfl rfl rfl rfl rfl (by kernel_rfl) Try.func12 (by kernel_rfl)
    (of_decide_eq_true (by kernel_rfl)) (by unfold Func.isWrapper; first | (rw [if_pos (by decide +kernel)]; kernel_rfl) | (rw [if_neg (by decide +kernel)]; exact ⟨rfl, rfl⟩))
    (fun os started H enc _ => sankoffAll_lifted os started H enc)
#print axioms sankoffAll_holds

end Go.Proofs.Ytfalggfambgkeaa
