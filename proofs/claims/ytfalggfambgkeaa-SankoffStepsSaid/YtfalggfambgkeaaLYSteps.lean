/-
  SankoffSteps returns true for every input: if each change of the state costs 1, the cost of states is the number of nodes at which there is one; the cheapest assignment has at most as many as there are leaves of another state than the commonest one. Conditions: none.
-/
import Derived.Test.YtfalggfambgkeaaMO
import Derived.Test.YtfalggfambgkeaaMN
set_option linter.unusedVariables false
set_option linter.unusedSimpArgs false
set_option maxHeartbeats 8000000
set_option maxRecDepth 100000
namespace Go.Cp
open Go Go.Proofs Go.Vx

theorem rowsN_row (m : List (List Int)) (i : Nat) (h : i < m.length) : (rowsN m).getD i [] = (m.getD i []).map num := by
  simp [rowsN, List.getD, List.getElem?_map, List.getElem?_eq_getElem h]
theorem rowsN_set (m : List (List Int)) (i : Nat) (r : List Int) : (rowsN m).set i (r.map num) = rowsN (m.set i r) := by rw [rowsN, rowsN, List.map_set]
/-- row i is there, but its place i is not 0 yet -/
def halfT (n i : Nat) : List (List Int) := stepT n i ++ [List.replicate n 1]
theorem halfT_len (n i : Nat) : (halfT n i).length = i + 1 := by simp [halfT, stepT_len]
theorem halfT_row (n i : Nat) : (halfT n i).getD i [] = List.replicate n 1 := by
  have := stepT_len n i
  rw [halfT, List.getD_eq_getElem?_getD, List.getElem?_append_right (by omega), this, Nat.sub_self]; rfl
theorem halfT_set {n i : Nat} (h : i < n) : (halfT n i).set i ((List.replicate n (1 : Int)).set i 0) = stepT n (i + 1) := by
  have := stepT_len n i
  rw [stepR_set h, halfT, List.set_append, if_neg (by omega), this, Nat.sub_self, stepT_succ]; rfl

def othV (os : List Nat) (n v : Nat) : Int := if os = [] then 0 else ((os.getD (v % os.length) 0 % n : Nat) : Int)
def othL (os : List Nat) (n N k : Nat) : List Int := (List.range k).map (othV os n) ++ List.replicate (N - k) 0
theorem othL_len {os : List Nat} {n N k : Nat} (h : k ≤ N) : (othL os n N k).length = N := by simp [othL]; omega
theorem othL_set {os : List Nat} {n N k : Nat} (h : k < N) : (othL os n N k).set k (othV os n k) = othL os n N (k + 1) := by
  have e : N - k = (N - (k + 1)) + 1 := by omega
  rw [othL, othL, List.set_append, if_neg (by simp), List.length_map, List.length_range, Nat.sub_self, e, List.replicate_succ, List.set_cons_zero, List.range_succ, List.map_append, List.append_assoc]
  rfl
theorem othL_same {os : List Nat} {n N k : Nat} (h : k < N) (h0 : os = []) : othL os n N (k + 1) = othL os n N k := by
  have e : N - k = (N - (k + 1)) + 1 := by omega
  rw [othL, othL, e, List.range_succ, List.map_append, List.append_assoc, List.replicate_succ]
  simp [othV, h0]
theorem othV_bd {os : List Nat} {n v : Nat} (hn : 0 < n) : 0 ≤ othV os n v ∧ othV os n v < n := by
  unfold othV
  split
  · omega
  · have := Nat.mod_lt (os.getD (v % os.length) 0) hn
    omega
theorem othL_at {os : List Nat} {n N v : Nat} (h : v < N) : (othL os n N N).getD v 0 = othV os n v := by simp [othL, List.getD, h]

def oftenL (n : Nat) (W : List Int) (k : Nat) : List Int := (List.range n).map fun s => (oftenN W k s : Int)
theorem oftenL_len (n : Nat) (W : List Int) (k : Nat) : (oftenL n W k).length = n := by simp [oftenL]
theorem oftenL_at {n : Nat} {W : List Int} {k s : Nat} (h : s < n) : (oftenL n W k).getD s 0 = (oftenN W k s : Int) := by simp [oftenL, List.getD, h]
theorem often_succ (W : List Int) (k s : Nat) : oftenN W (k + 1) s = oftenN W k s + if decide (W.getD k 0 = (s : Int)) then 1 else 0 := cntB_succ ..
theorem some_succ (W : List Int) (k : Nat) : someN W (k + 1) = someN W k + if decide (0 ≤ W.getD k 0) then 1 else 0 := cntB_succ ..
theorem often_le (W : List Int) (k s : Nat) : oftenN W k s ≤ k := by
  induction k with
  | zero => exact Nat.le_refl _
  | succ k ih => rw [often_succ]; split <;> omega
theorem some_le (W : List Int) (k : Nat) : someN W k ≤ k := by
  induction k with
  | zero => exact Nat.le_refl _
  | succ k ih => rw [some_succ]; split <;> omega
theorem oftenL_zero (n : Nat) (W : List Int) : oftenL n W 0 = List.replicate n 0 := by
  refine List.ext_getElem (by simp [oftenL]) fun i h1 h2 => ?_
  simp [oftenL, oftenN, cntB]
theorem oftenL_set {n : Nat} {W : List Int} {k s : Nat} (hs : s < n) (h : W.getD k 0 = (s : Int)) : (oftenL n W k).set s ((oftenN W k s + 1 : Nat) : Int) = oftenL n W (k + 1) := by
  refine List.ext_getElem (by simp [oftenL]) fun i h1 h2 => ?_
  rw [List.getElem_set]
  simp only [oftenL, List.getElem_map, List.getElem_range]
  rw [often_succ, h]
  by_cases e : s = i
  · subst e; simp
  · rw [if_neg e, if_neg (by rw [decide_eq_true_eq]; omega)]; rfl
theorem oftenL_same {n : Nat} {W : List Int} {k : Nat} (h : W.getD k 0 < 0) : oftenL n W (k + 1) = oftenL n W k := by
  refine List.ext_getElem (by simp [oftenL]) fun i h1 h2 => ?_
  simp only [oftenL, List.getElem_map, List.getElem_range]
  rw [often_succ, if_neg (by rw [decide_eq_true_eq]; omega)]; rfl
/-- the commonest so far -/
def mostN (W : List Int) : Nat → Nat
  | 0 => 0
  | k + 1 => if 0 ≤ W.getD k 0 then max (mostN W k) (oftenN W (k + 1) (W.getD k 0).toNat) else mostN W k
theorem often_mono (W : List Int) (k s : Nat) : oftenN W k s ≤ oftenN W (k + 1) s := by rw [often_succ]; omega
theorem most_at {n : Nat} {W : List Int} (hn : 0 < n) : ∀ k, (∀ j, j < k → W.getD j 0 < n) → ∃ s, s < n ∧ mostN W k ≤ oftenN W k s
  | 0, _ => ⟨0, hn, Nat.le_refl _⟩
  | k + 1, h => by
    obtain ⟨s, h1, h2⟩ := most_at hn k fun j hj => h j (by omega)
    have hm := often_mono W k s
    rw [mostN]
    split
    · rename_i h0
      by_cases e : mostN W k ≤ oftenN W (k + 1) (W.getD k 0).toNat
      · exact ⟨(W.getD k 0).toNat, by have := h k (by omega); omega, by omega⟩
      · exact ⟨s, h1, by omega⟩
    · exact ⟨s, h1, by omega⟩
theorem most_le (W : List Int) : ∀ k, mostN W k ≤ k
  | 0 => Nat.le_refl _
  | k + 1 => by
    have := most_le W k
    rw [mostN]
    split
    · have := often_le W (k + 1) (W.getD k 0).toNat
      omega
    · omega
def kindsTo (W : List Int) (k : Nat) : Nat := cntB (fun s => decide (0 < oftenN W W.length s)) k
theorem kindsTo_succ (W : List Int) (k : Nat) : kindsTo W (k + 1) = kindsTo W k + if decide (0 < oftenN W W.length k) then 1 else 0 := cntB_succ ..
theorem kindsTo_le (W : List Int) (k : Nat) : kindsTo W k ≤ k := by
  induction k with
  | zero => exact Nat.le_refl _
  | succ k ih => rw [kindsTo_succ]; split <;> omega
theorem ev_len (t : List Node) (A : List Int) (k : Nat) : (evTo t A k).length ≤ k := by
  rw [evTo, List.length_map]
  exact Nat.le_trans (List.length_filter_le _ _) (by simp)

theorem steps_law (ps ss os : List Nat) (c : Nat) (hp : ∀ i, ps.getD i 0 < 256) (hpl : ps.length ≤ 9223372036854775807) (hss : ∀ i, ss.getD i 0 < 256) (hos : ∀ i, os.getD i 0 < 256) (hol : os.length ≤ 9223372036854775807) (hc : c < 256) :
    Ok Try.prog E 3 [.c (bytesD ps), .c (bytesD ss), .c (bytesD os), .c (.sc (.int .u8 c))] (bv true) := by
  refine ok_of_vc (L := [(25, [(2, 5), (2, 6), (2, 10), (2, 11), (2, 12), (2, 13), (2, 14)])]) (ts := [8]) envOK mixed Try.func3 rfl (by kernel_rfl) rfl (by kernel_rfl) rfl fun hl => ?_
  obtain ⟨n, hn⟩ : ∃ n, 1 + c % 12 = n := ⟨_, rfl⟩
  have hn0 : 0 < n := by omega
  have hn12 : n ≤ 12 := by omega
  have w1 : IntKind.i64.wrap (c : Int) = (c : Int) := wrap_in (by omega) (by omega)
  have w2 : Int.tmod (c : Int) 12 = ((c % 12 : Nat) : Int) := tmodN c 12
  have w3 : IntKind.i64.wrap (1 + ((c % 12 : Nat) : Int)) = (n : Int) := by rw [wrap_in (by omega) (by omega)]; omega
  simp only [Try.f3, w1, w2, w3, nums, rowsS, nodes, zv, bv, sv, nv, bytesD, VL, VB, BEq.rfl, V1, V2, V3, V4, V5, V6, V7, V8, V9, V10, V11, V12, V13, V14, VE, Nat.reduceBEq, Nat.reduceAdd, Nat.reduceSub, Nat.reduceMul, Nat.reduceLeDiff, Nat.reduceLT, Nat.reduceEqDiff, Int.reduceBEq, Int.reduceBNe, Int.reduceLT, Int.reduceLE, Int.reduceAdd, Int.reduceSub, Int.reduceMul, kAgg, scD, List.all_cons, List.all_nil]
  refine ⟨by decide, ?_⟩
  refine CallX.mk (grown_ok ps 62 (by omega) hp hpl) rfl ?_
  simp only [nums, rowsS, nodes, zv, bv, sv, nv, bytesD, VL, VB, BEq.rfl, V1, V2, V3, V4, V5, V6, V7, V8, V9, V10, V11, V12, V13, V14, VE, Nat.reduceBEq, Nat.reduceAdd, Nat.reduceSub, Nat.reduceMul, Nat.reduceLeDiff, Nat.reduceLT, Nat.reduceEqDiff, Int.reduceBEq, Int.reduceBNe, Int.reduceLT, Int.reduceLE, Int.reduceAdd, Int.reduceSub, Int.reduceMul, kAgg, scD, List.all_cons, List.all_nil]
  have hlp := leaves_pos (treeD_ok ps)
  have hll := leaves_len (treeD ps)
  have hnl : (treeD ps).length = min ps.length 62 + 1 := grownTo_len ps _
  have hsm := treeD_small ps
  have htk := treeD_ok ps
  refine CallX.mk (known_ok (leavesOf (treeD ps)) n ss hn0 hn12 (by omega) hss) rfl ?_
  obtain ⟨W, hW⟩ : ∃ W, knownL n ss (leavesOf (treeD ps)).length = W := ⟨_, rfl⟩
  have hWl : W.length = (leavesOf (treeD ps)).length := by rw [← hW, knownL_len]
  have hWb : ∀ k, k < W.length → -1 ≤ W.getD k 0 ∧ W.getD k 0 < n := fun k hk => by
    rw [← hW, known_at (by omega)]; exact knownN_bd n ss k hn0
  obtain ⟨T, hT⟩ : ∃ T, treeD ps = T := ⟨_, rfl⟩
  simp only [hW] at ⊢
  simp only [hT] at hlp hll hWl hsm hnl htk ⊢
  simp only [nums, rowsS, nodes, zv, bv, sv, nv, bytesD, VL, VB, BEq.rfl, V1, V2, V3, V4, V5, V6, V7, V8, V9, V10, V11, V12, V13, V14, VE, Nat.reduceBEq, Nat.reduceAdd, Nat.reduceSub, Nat.reduceMul, Nat.reduceLeDiff, Nat.reduceLT, Nat.reduceEqDiff, Int.reduceBEq, Int.reduceBNe, Int.reduceLT, Int.reduceLE, Int.reduceAdd, Int.reduceSub, Int.reduceMul, kAgg, scD, List.all_cons, List.all_nil]
  refine LoopVC.mk (Y := Nat) (fun i => i ≤ n) (fun i => ⟨[(2, .c (bytesD os)), (9, nv n), (10, .c (nodes T)), (12, .osl 44 0), (13, .osl 1000 0), (45, nv n), (46, nv i)], [(44, .arr 3 0 (W.map num)), (1000, .nest 29 0 0 none (rowsN (stepT n i)))]⟩) (fun i => n - i) ⟨0, Enter.mk [(13, (1000, 100029))] [] [] ?_, by omega⟩ ?_
  · simp only [nums, rowsS, nodes, zv, bv, sv, nv, bytesD, VL, VB, BEq.rfl, V1, V2, V3, V4, V5, V6, V7, V8, V9, V10, V11, V12, V13, V14, VE, Nat.reduceBEq, Nat.reduceAdd, Nat.reduceSub, Nat.reduceMul, Nat.reduceLeDiff, Nat.reduceLT, Nat.reduceEqDiff, Int.reduceBEq, Int.reduceBNe, Int.reduceLT, Int.reduceLE, Int.reduceAdd, Int.reduceSub, Int.reduceMul, kAgg, scD, List.all_cons, List.all_nil]
    first | exact ⟨⟨rfl, rfl⟩, rfl⟩ | exact ⟨⟨rfl, rfl⟩, rfl, rfl⟩ | trace_state
  intro i hi
  simp only [lt_nat, nums, rowsS, nodes, zv, bv, sv, nv, bytesD, VL, VB, BEq.rfl, V1, V2, V3, V4, V5, V6, V7, V8, V9, V10, V11, V12, V13, V14, VE, Nat.reduceBEq, Nat.reduceAdd, Nat.reduceSub, Nat.reduceMul, Nat.reduceLeDiff, Nat.reduceLT, Nat.reduceEqDiff, Int.reduceBEq, Int.reduceBNe, Int.reduceLT, Int.reduceLE, Int.reduceAdd, Int.reduceSub, Int.reduceMul, kAgg, scD, List.all_cons, List.all_nil]
  refine guardB.mk (fun h => ?_) (fun h => ?_)
  · have hi' : i < n := by simpa using h
    clear h
    have hsl : (rowsN (stepT n i)).length = i := (rowsN_len _).trans (stepT_len n i)
    have hha : rowsN (stepT n i) ++ [(List.replicate n (1 : Int)).map num] = rowsN (halfT n i) := by rw [halfT, ← rowsN_app]
    have hhl : (rowsN (halfT n i)).length = i + 1 := (rowsN_len _).trans (halfT_len n i)
    have hhr : (rowsN (halfT n i)).getD i [] = (List.replicate n (1 : Int)).map num := by rw [rowsN_row _ _ (by rw [halfT_len]; omega), halfT_row]
    have hone : ((List.replicate n (1 : Int)).map num).getD i [] = num 1 := by
      rw [getD_num _ i (by simpa using hi')]; simp [List.getD, hi']
    have hset : ((List.replicate n (1 : Int)).map num).set i [.sc (.int .i64 0)] = ((List.replicate n (1 : Int)).set i 0).map num := by rw [List.map_set]; rfl
    have hset2 : (rowsN (halfT n i)).set i (((List.replicate n (1 : Int)).set i 0).map num) = rowsN (stepT n (i + 1)) := by rw [rowsN_set, halfT_set hi']
    refine CallX.mk (RepL_ok 1 n (by omega)) rfl ?_
    simp only [hsl, hha, hhl, hhr, hone, hset, hset2, num_def, List.length_map, List.length_replicate, wrap_nat (k := i) (by omega), nums, rowsS, nodes, zv, bv, sv, nv, bytesD, VL, VB, BEq.rfl, V1, V2, V3, V4, V5, V6, V7, V8, V9, V10, V11, V12, V13, V14, VE, Nat.reduceBEq, Nat.reduceAdd, Nat.reduceSub, Nat.reduceMul, Nat.reduceLeDiff, Nat.reduceLT, Nat.reduceEqDiff, Int.reduceBEq, Int.reduceBNe, Int.reduceLT, Int.reduceLE, Int.reduceAdd, Int.reduceSub, Int.reduceMul, kAgg, scD, List.all_cons, List.all_nil]
    refine ⟨by omega, Int.natCast_nonneg i, by omega, by omega, Int.natCast_nonneg i, hi', hi', i + 1, Enter.id ?_, by omega, by show n - (i + 1) < n - i; omega⟩
    simp only [nums, rowsS, nodes, zv, bv, sv, nv, bytesD, VL, VB, BEq.rfl, V1, V2, V3, V4, V5, V6, V7, V8, V9, V10, V11, V12, V13, V14, VE, Nat.reduceBEq, Nat.reduceAdd, Nat.reduceSub, Nat.reduceMul, Nat.reduceLeDiff, Nat.reduceLT, Nat.reduceEqDiff, Int.reduceBEq, Int.reduceBNe, Int.reduceLT, Int.reduceLE, Int.reduceAdd, Int.reduceSub, Int.reduceMul, kAgg, scD, List.all_cons, List.all_nil]
  have hi' : i = n := by
    have : ¬ i < n := by simpa using h
    omega
  subst hi'
  clear h
  have hz : List.replicate T.length [D.sc (.int .i64 0)] = (othL os i T.length 0).map num := by rw [othL]; simp [num]
  have hN0 := (okTree_len htk).1
  simp only [hz, List.length_map, othL_len (os := os) (n := i) (Nat.zero_le T.length), nums, rowsS, nodes, zv, bv, sv, nv, bytesD, VL, VB, BEq.rfl, V1, V2, V3, V4, V5, V6, V7, V8, V9, V10, V11, V12, V13, V14, VE, Nat.reduceBEq, Nat.reduceAdd, Nat.reduceSub, Nat.reduceMul, Nat.reduceLeDiff, Nat.reduceLT, Nat.reduceEqDiff, Int.reduceBEq, Int.reduceBNe, Int.reduceLT, Int.reduceLE, Int.reduceAdd, Int.reduceSub, Int.reduceMul, kAgg, scD, List.all_cons, List.all_nil]
  refine ⟨⟨Int.natCast_nonneg _, by omega⟩, ?_⟩
  refine LoopVC.mk (Y := Nat) (fun k => k ≤ T.length) (fun k => ⟨[(2, .c (bytesD os)), (9, nv i), (10, .c (nodes T)), (12, .osl 44 0), (13, .osl 1000 0), (15, .osl 64 0), (66, nv T.length), (67, nv k)], [(44, .arr 3 0 (W.map num)), (64, .arr 3 0 ((othL os i T.length k).map num)), (1000, .nest 29 0 0 none (rowsN (stepT i i)))]⟩) (fun k => T.length - k) ⟨0, Enter.id ?_, by omega⟩ ?_
  · simp only [nums, rowsS, nodes, zv, bv, sv, nv, bytesD, VL, VB, BEq.rfl, V1, V2, V3, V4, V5, V6, V7, V8, V9, V10, V11, V12, V13, V14, VE, Nat.reduceBEq, Nat.reduceAdd, Nat.reduceSub, Nat.reduceMul, Nat.reduceLeDiff, Nat.reduceLT, Nat.reduceEqDiff, Int.reduceBEq, Int.reduceBNe, Int.reduceLT, Int.reduceLE, Int.reduceAdd, Int.reduceSub, Int.reduceMul, kAgg, scD, List.all_cons, List.all_nil]
    rfl
  intro k hk
  simp only [lt_nat, nums, rowsS, nodes, zv, bv, sv, nv, bytesD, VL, VB, BEq.rfl, V1, V2, V3, V4, V5, V6, V7, V8, V9, V10, V11, V12, V13, V14, VE, Nat.reduceBEq, Nat.reduceAdd, Nat.reduceSub, Nat.reduceMul, Nat.reduceLeDiff, Nat.reduceLT, Nat.reduceEqDiff, Int.reduceBEq, Int.reduceBNe, Int.reduceLT, Int.reduceLE, Int.reduceAdd, Int.reduceSub, Int.reduceMul, kAgg, scD, List.all_cons, List.all_nil]
  refine guardB.mk (fun h => ?_) (fun h => ?_)
  · have hk' : k < T.length := by simpa using h
    clear h
    have hol' := othL_len (os := os) (n := i) hk
    have hset := othL_set (os := os) (n := i) hk'
    have hsame := othL_same (os := os) (n := i) hk'
    have hov : othV os i k = if os = [] then 0 else ((os.getD (k % os.length) 0 % i : Nat) : Int) := rfl
    have hm1 : Int.tmod (k : Int) (os.length : Int) = ((k % os.length : Nat) : Int) := tmodN k os.length
    have hg : decide ((0 : Int) < (os.length : Int)) = decide (os ≠ []) := by
      congr 1
      exact propext ⟨fun h e => by rw [e] at h; simp at h, fun h => by have := List.length_pos_iff.2 h; omega⟩
    obtain ⟨O, hO⟩ : ∃ O, othL os i T.length k = O := ⟨_, rfl⟩
    rw [hO] at hol' hset hsame
    simp only [hO, hg, nums, rowsS, nodes, zv, bv, sv, nv, bytesD, VL, VB, BEq.rfl, V1, V2, V3, V4, V5, V6, V7, V8, V9, V10, V11, V12, V13, V14, VE, Nat.reduceBEq, Nat.reduceAdd, Nat.reduceSub, Nat.reduceMul, Nat.reduceLeDiff, Nat.reduceLT, Nat.reduceEqDiff, Int.reduceBEq, Int.reduceBNe, Int.reduceLT, Int.reduceLE, Int.reduceAdd, Int.reduceSub, Int.reduceMul, kAgg, scD, List.all_cons, List.all_nil]
    refine guardB.mk (fun h => ?_) (fun h => ?_) <;> simp only [h, nums, rowsS, nodes, zv, bv, sv, nv, bytesD, VL, VB, BEq.rfl, V1, V2, V3, V4, V5, V6, V7, V8, V9, V10, V11, V12, V13, V14, VE, Nat.reduceBEq, Nat.reduceAdd, Nat.reduceSub, Nat.reduceMul, Nat.reduceLeDiff, Nat.reduceLT, Nat.reduceEqDiff, Int.reduceBEq, Int.reduceBNe, Int.reduceLT, Int.reduceLE, Int.reduceAdd, Int.reduceSub, Int.reduceMul, kAgg, scD, List.all_cons, List.all_nil]
    · have h : os ≠ [] := by simpa using h
      have hpos := List.length_pos_iff.2 h
      have hlt : k % os.length < os.length := Nat.mod_lt _ hpos
      rw [if_neg h] at hov
      obtain ⟨j, hj⟩ : ∃ j, k % os.length = j := ⟨_, rfl⟩
      rw [hj] at hm1 hlt hov
      have hgj := getD_u8 os j hlt
      have hq256 := hos j
      obtain ⟨q, hq⟩ : ∃ q, os.getD j 0 = q := ⟨_, rfl⟩
      rw [hq] at hgj hq256 hov
      have w4 : IntKind.i64.wrap (q : Int) = (q : Int) := wrap_in (by omega) (by omega)
      have hm2 : Int.tmod (q : Int) (i : Int) = ((q % i : Nat) : Int) := tmodN q i
      have hone : ((O.map num).getD k []).length = 1 := by rw [getD_num O k (by omega)]; rfl
      have hset2 : (O.map num).set k [.sc (.int .i64 ((q % i : Nat) : Int))] = (othL os i T.length (k + 1)).map num := by rw [← hset, hov, List.map_set]; rfl
      simp only [hm1, hgj, u8E_def, w4, hm2, hone, drop1_num, hset2, hol', List.length_map, wrap_nat (k := k) (by omega), nums, rowsS, nodes, zv, bv, sv, nv, bytesD, VL, VB, BEq.rfl, V1, V2, V3, V4, V5, V6, V7, V8, V9, V10, V11, V12, V13, V14, VE, Nat.reduceBEq, Nat.reduceAdd, Nat.reduceSub, Nat.reduceMul, Nat.reduceLeDiff, Nat.reduceLT, Nat.reduceEqDiff, Int.reduceBEq, Int.reduceBNe, Int.reduceLT, Int.reduceLE, Int.reduceAdd, Int.reduceSub, Int.reduceMul, kAgg, scD, List.all_cons, List.all_nil]
      refine ⟨by omega, ⟨Int.natCast_nonneg j, hlt⟩, by omega, Int.natCast_nonneg k, hk', hk', k + 1, Enter.id ?_, by omega, by show T.length - (k + 1) < T.length - k; omega⟩
      simp only [nums, rowsS, nodes, zv, bv, sv, nv, bytesD, VL, VB, BEq.rfl, V1, V2, V3, V4, V5, V6, V7, V8, V9, V10, V11, V12, V13, V14, VE, Nat.reduceBEq, Nat.reduceAdd, Nat.reduceSub, Nat.reduceMul, Nat.reduceLeDiff, Nat.reduceLT, Nat.reduceEqDiff, Int.reduceBEq, Int.reduceBNe, Int.reduceLT, Int.reduceLE, Int.reduceAdd, Int.reduceSub, Int.reduceMul, kAgg, scD, List.all_cons, List.all_nil]
    · have h : os = [] := by simpa using h
      simp only [wrap_nat (k := k) (by omega), nums, rowsS, nodes, zv, bv, sv, nv, bytesD, VL, VB, BEq.rfl, V1, V2, V3, V4, V5, V6, V7, V8, V9, V10, V11, V12, V13, V14, VE, Nat.reduceBEq, Nat.reduceAdd, Nat.reduceSub, Nat.reduceMul, Nat.reduceLeDiff, Nat.reduceLT, Nat.reduceEqDiff, Int.reduceBEq, Int.reduceBNe, Int.reduceLT, Int.reduceLE, Int.reduceAdd, Int.reduceSub, Int.reduceMul, kAgg, scD, List.all_cons, List.all_nil]
      refine ⟨k + 1, Enter.id ?_, by omega, by show T.length - (k + 1) < T.length - k; omega⟩
      simp only [hsame h, nums, rowsS, nodes, zv, bv, sv, nv, bytesD, VL, VB, BEq.rfl, V1, V2, V3, V4, V5, V6, V7, V8, V9, V10, V11, V12, V13, V14, VE, Nat.reduceBEq, Nat.reduceAdd, Nat.reduceSub, Nat.reduceMul, Nat.reduceLeDiff, Nat.reduceLT, Nat.reduceEqDiff, Int.reduceBEq, Int.reduceBNe, Int.reduceLT, Int.reduceLE, Int.reduceAdd, Int.reduceSub, Int.reduceMul, kAgg, scD, List.all_cons, List.all_nil]
  have hk' : k = T.length := by
    have : ¬ k < T.length := by simpa using h
    omega
  subst hk'
  clear h
  have hAl := othL_len (os := os) (n := i) (Nat.le_refl T.length)
  have hbd : Bd i T (othL os i T.length T.length) := fun v hv => by
    rw [othL_at hv]; exact othV_bd hn0
  obtain ⟨A, hA⟩ : ∃ A, othL os i T.length T.length = A := ⟨_, rfl⟩
  rw [hA] at hAl hbd
  obtain ⟨he1, he2, he3, he4⟩ := steps_cost htk hn0 hn12 hAl hbd
  have hsrt := ev_sorted (t := T) (A := A) T.length
  have hevl := ev_len T A T.length
  have hmem := fun v => ev_mem (t := T) (A := A) (k := T.length) (v := v)
  have hpar := par_lt htk
  obtain ⟨V, hV⟩ : ∃ V, evTo T A T.length = V := ⟨_, rfl⟩
  simp only [hV] at he3 he4 hsrt hevl hmem
  have hup := fun s hs => steps_upper (s := s) htk hn12 hs hWl hWb
  have hlow := steps_lower htk hn0 hn12 hWl hWb
  simp only [hA, rowsN_D, nums, rowsS, nodes, zv, bv, sv, nv, bytesD, VL, VB, BEq.rfl, V1, V2, V3, V4, V5, V6, V7, V8, V9, V10, V11, V12, V13, V14, VE, Nat.reduceBEq, Nat.reduceAdd, Nat.reduceSub, Nat.reduceMul, Nat.reduceLeDiff, Nat.reduceLT, Nat.reduceEqDiff, Int.reduceBEq, Int.reduceBNe, Int.reduceLT, Int.reduceLE, Int.reduceAdd, Int.reduceSub, Int.reduceMul, kAgg, scD, List.all_cons, List.all_nil]
  refine CallX.mk (Cost_ok T (stepT i i) A hsm) rfl ?_
  simp only [he1, he3, nums, rowsS, nodes, zv, bv, sv, nv, bytesD, VL, VB, BEq.rfl, V1, V2, V3, V4, V5, V6, V7, V8, V9, V10, V11, V12, V13, V14, VE, Nat.reduceBEq, Nat.reduceAdd, Nat.reduceSub, Nat.reduceMul, Nat.reduceLeDiff, Nat.reduceLT, Nat.reduceEqDiff, Int.reduceBEq, Int.reduceBNe, Int.reduceLT, Int.reduceLE, Int.reduceAdd, Int.reduceSub, Int.reduceMul, kAgg, scD, List.all_cons, List.all_nil]
  refine CallX.mk (Events_ok T A hsm) rfl ?_
  simp only [he2, he4, bne_self_eq_false, List.length_map, nums, rowsS, nodes, zv, bv, sv, nv, bytesD, VL, VB, BEq.rfl, V1, V2, V3, V4, V5, V6, V7, V8, V9, V10, V11, V12, V13, V14, VE, Nat.reduceBEq, Nat.reduceAdd, Nat.reduceSub, Nat.reduceMul, Nat.reduceLeDiff, Nat.reduceLT, Nat.reduceEqDiff, Int.reduceBEq, Int.reduceBNe, Int.reduceLT, Int.reduceLE, Int.reduceAdd, Int.reduceSub, Int.reduceMul, kAgg, scD, List.all_cons, List.all_nil]
  refine CallX.mk (sorted_ok V (by omega)) rfl ?_
  simp only [hsrt, nums, rowsS, nodes, zv, bv, sv, nv, bytesD, VL, VB, BEq.rfl, V1, V2, V3, V4, V5, V6, V7, V8, V9, V10, V11, V12, V13, V14, VE, Nat.reduceBEq, Nat.reduceAdd, Nat.reduceSub, Nat.reduceMul, Nat.reduceLeDiff, Nat.reduceLT, Nat.reduceEqDiff, Int.reduceBEq, Int.reduceBNe, Int.reduceLT, Int.reduceLE, Int.reduceAdd, Int.reduceSub, Int.reduceMul, kAgg, scD, List.all_cons, List.all_nil]
  refine LoopVC.mk (Y := Nat) (fun v => 1 ≤ v ∧ v ≤ T.length) (fun v => ⟨[(9, nv i), (10, .c (nodes T)), (12, .osl 44 0), (13, .osl 1000 0), (15, .c (nums A)), (19, .c (nums V)), (21, nv v)], [(44, .arr 3 0 (W.map num)), (1000, .nest 29 0 0 none (rowsN (stepT i i)))]⟩) (fun v => T.length - v) ⟨1, Enter.id ?_, by omega, by omega⟩ ?_
  · simp only [nums, rowsS, nodes, zv, bv, sv, nv, bytesD, VL, VB, BEq.rfl, V1, V2, V3, V4, V5, V6, V7, V8, V9, V10, V11, V12, V13, V14, VE, Nat.reduceBEq, Nat.reduceAdd, Nat.reduceSub, Nat.reduceMul, Nat.reduceLeDiff, Nat.reduceLT, Nat.reduceEqDiff, Int.reduceBEq, Int.reduceBNe, Int.reduceLT, Int.reduceLE, Int.reduceAdd, Int.reduceSub, Int.reduceMul, kAgg, scD, List.all_cons, List.all_nil]
    rfl
  rintro v ⟨hv1, hv⟩
  simp only [lt_nat, nums, rowsS, nodes, zv, bv, sv, nv, bytesD, VL, VB, BEq.rfl, V1, V2, V3, V4, V5, V6, V7, V8, V9, V10, V11, V12, V13, V14, VE, Nat.reduceBEq, Nat.reduceAdd, Nat.reduceSub, Nat.reduceMul, Nat.reduceLeDiff, Nat.reduceLT, Nat.reduceEqDiff, Int.reduceBEq, Int.reduceBNe, Int.reduceLT, Int.reduceLE, Int.reduceAdd, Int.reduceSub, Int.reduceMul, kAgg, scD, List.all_cons, List.all_nil]
  refine guardB.mk (fun h => ?_) (fun h => ?_)
  · have hv' : v < T.length := by simpa using h
    clear h
    obtain ⟨hp1, hp2⟩ := hpar v (by omega) hv'
    have hx : (T.getD v Node.zero).parent = (parN T v : Int) := hp2
    have hm : decide ((v : Int) ∈ V) = decide (A.getD v 0 ≠ A.getD (parN T v) 0) := by
      rw [decide_eq_decide, hmem]
      exact ⟨fun h => h.2.2, fun h => ⟨hv', by omega, h⟩⟩
    obtain ⟨p, hpp⟩ : ∃ p, parN T v = p := ⟨_, rfl⟩
    rw [hpp] at hp1 hx hm
    refine CallX.mk (contains_ok V v (by omega)) rfl ?_
    have hbne : (A.getD v 0 != A.getD p 0) = decide (A.getD v 0 ≠ A.getD p 0) := by rw [bne, int_beq]; simp
    simp only [hm, getD_num A v (by omega), getD_num A p (by omega), getD_node T v hv', node_def, num_def, hx, hbne, bne_self_eq_false, nums, rowsS, nodes, zv, bv, sv, nv, bytesD, VL, VB, BEq.rfl, V1, V2, V3, V4, V5, V6, V7, V8, V9, V10, V11, V12, V13, V14, VE, Nat.reduceBEq, Nat.reduceAdd, Nat.reduceSub, Nat.reduceMul, Nat.reduceLeDiff, Nat.reduceLT, Nat.reduceEqDiff, Int.reduceBEq, Int.reduceBNe, Int.reduceLT, Int.reduceLE, Int.reduceAdd, Int.reduceSub, Int.reduceMul, kAgg, scD, List.all_cons, List.all_nil]
    simp only [wrap_nat (k := v) (by omega)]
    refine ⟨⟨Int.natCast_nonneg v, by omega⟩, ⟨Int.natCast_nonneg v, hv'⟩, ⟨Int.natCast_nonneg p, by omega⟩, v + 1, Enter.id ?_, by omega, by show T.length - (v + 1) < T.length - v; omega⟩
    simp only [nums, rowsS, nodes, zv, bv, sv, nv, bytesD, VL, VB, BEq.rfl, V1, V2, V3, V4, V5, V6, V7, V8, V9, V10, V11, V12, V13, V14, VE, Nat.reduceBEq, Nat.reduceAdd, Nat.reduceSub, Nat.reduceMul, Nat.reduceLeDiff, Nat.reduceLT, Nat.reduceEqDiff, Int.reduceBEq, Int.reduceBNe, Int.reduceLT, Int.reduceLE, Int.reduceAdd, Int.reduceSub, Int.reduceMul, kAgg, scD, List.all_cons, List.all_nil]
  have hv' : v = T.length := by
    have : ¬ v < T.length := by simpa using h
    omega
  subst hv'
  clear h
  have hm0 : decide ((0 : Int) ∈ V) = false := by
    refine decide_eq_false fun h => ?_
    have := (hmem 0).1 h
    omega
  simp only [nums, rowsS, nodes, zv, bv, sv, nv, bytesD, VL, VB, BEq.rfl, V1, V2, V3, V4, V5, V6, V7, V8, V9, V10, V11, V12, V13, V14, VE, Nat.reduceBEq, Nat.reduceAdd, Nat.reduceSub, Nat.reduceMul, Nat.reduceLeDiff, Nat.reduceLT, Nat.reduceEqDiff, Int.reduceBEq, Int.reduceBNe, Int.reduceLT, Int.reduceLE, Int.reduceAdd, Int.reduceSub, Int.reduceMul, kAgg, scD, List.all_cons, List.all_nil]
  refine CallX.mk (contains_ok V 0 (by omega)) rfl ?_
  simp only [hm0, rowsN_D, nums, rowsS, nodes, zv, bv, sv, nv, bytesD, VL, VB, BEq.rfl, V1, V2, V3, V4, V5, V6, V7, V8, V9, V10, V11, V12, V13, V14, VE, Nat.reduceBEq, Nat.reduceAdd, Nat.reduceSub, Nat.reduceMul, Nat.reduceLeDiff, Nat.reduceLT, Nat.reduceEqDiff, Int.reduceBEq, Int.reduceBNe, Int.reduceLT, Int.reduceLE, Int.reduceAdd, Int.reduceSub, Int.reduceMul, kAgg, scD, List.all_cons, List.all_nil]
  refine CallX.mk (Min_ok T (stepT i i) W hsm) rfl ?_
  obtain ⟨z, hz'⟩ : ∃ z, minV T (stepT i i) W = z := ⟨_, rfl⟩
  obtain ⟨e, he⟩ : ∃ e, errP T (stepT i i) W = e := ⟨_, rfl⟩
  simp only [hz', he] at hup hlow ⊢
  have he0 : e = 0 := (hup 0 hn0).1
  subst he0
  have hzi : List.replicate i [D.sc (.int .i64 0)] = (oftenL i W 0).map num := by rw [oftenL_zero]; simp [num]
  simp only [hzi, nums, rowsS, nodes, zv, bv, sv, nv, bytesD, VL, VB, BEq.rfl, V1, V2, V3, V4, V5, V6, V7, V8, V9, V10, V11, V12, V13, V14, VE, Nat.reduceBEq, Nat.reduceAdd, Nat.reduceSub, Nat.reduceMul, Nat.reduceLeDiff, Nat.reduceLT, Nat.reduceEqDiff, Int.reduceBEq, Int.reduceBNe, Int.reduceLT, Int.reduceLE, Int.reduceAdd, Int.reduceSub, Int.reduceMul, kAgg, scD, List.all_cons, List.all_nil]
  refine ⟨⟨Int.natCast_nonneg i, by omega⟩, ?_⟩
  refine LoopVC.mk (Y := Nat) (fun k => k ≤ W.length) (fun k => ⟨[(22, zv z), (23, zv 0), (24, .osl 150 0), (25, nv (someN W k)), (26, nv (mostN W k)), (151, .osl 44 0), (152, nv W.length), (153, nv k)], [(44, .arr 3 0 (W.map num)), (150, .arr 3 0 ((oftenL i W k).map num))]⟩) (fun k => W.length - k) ⟨0, Enter.id ?_, by omega⟩ ?_
  · simp only [nums, rowsS, nodes, zv, bv, sv, nv, bytesD, VL, VB, BEq.rfl, V1, V2, V3, V4, V5, V6, V7, V8, V9, V10, V11, V12, V13, V14, VE, Nat.reduceBEq, Nat.reduceAdd, Nat.reduceSub, Nat.reduceMul, Nat.reduceLeDiff, Nat.reduceLT, Nat.reduceEqDiff, Int.reduceBEq, Int.reduceBNe, Int.reduceLT, Int.reduceLE, Int.reduceAdd, Int.reduceSub, Int.reduceMul, kAgg, scD, List.all_cons, List.all_nil]
    exact ⟨rfl, rfl, rfl⟩
  intro k hk
  have hsl := some_le W k
  have hml := most_le W k
  simp only [lt_nat, nums, rowsS, nodes, zv, bv, sv, nv, bytesD, VL, VB, BEq.rfl, V1, V2, V3, V4, V5, V6, V7, V8, V9, V10, V11, V12, V13, V14, VE, Nat.reduceBEq, Nat.reduceAdd, Nat.reduceSub, Nat.reduceMul, Nat.reduceLeDiff, Nat.reduceLT, Nat.reduceEqDiff, Int.reduceBEq, Int.reduceBNe, Int.reduceLT, Int.reduceLE, Int.reduceAdd, Int.reduceSub, Int.reduceMul, kAgg, scD, List.all_cons, List.all_nil]
  refine guardB.mk (fun h => ?_) (fun h => ?_)
  · have hk' : k < W.length := by simpa using h
    clear h
    have hwb := hWb k hk'
    have hss' := some_succ W k
    have hmm : mostN W (k + 1) = if 0 ≤ W.getD k 0 then max (mostN W k) (oftenN W (k + 1) (W.getD k 0).toNat) else mostN W k := rfl
    have hoset := fun s hs h => oftenL_set (n := i) (W := W) (k := k) (s := s) hs h
    have hosame := oftenL_same (n := i) (W := W) (k := k)
    have hos := fun s => often_succ W k s
    have holen := oftenL_len i W k
    have holen1 := oftenL_len i W (k + 1)
    obtain ⟨x, hx⟩ : ∃ x, W.getD k 0 = x := ⟨_, rfl⟩
    rw [hx] at hwb hss' hmm hosame
    simp only [hx] at hoset hos
    simp only [getD_num W k hk', hx, num_def, nums, rowsS, nodes, zv, bv, sv, nv, bytesD, VL, VB, BEq.rfl, V1, V2, V3, V4, V5, V6, V7, V8, V9, V10, V11, V12, V13, V14, VE, Nat.reduceBEq, Nat.reduceAdd, Nat.reduceSub, Nat.reduceMul, Nat.reduceLeDiff, Nat.reduceLT, Nat.reduceEqDiff, Int.reduceBEq, Int.reduceBNe, Int.reduceLT, Int.reduceLE, Int.reduceAdd, Int.reduceSub, Int.reduceMul, kAgg, scD, List.all_cons, List.all_nil]
    refine ⟨Int.natCast_nonneg k, hk', hk', ?_⟩
    refine guardB.mk (fun h => ?_) (fun h => ?_) <;> simp only [h, nums, rowsS, nodes, zv, bv, sv, nv, bytesD, VL, VB, BEq.rfl, V1, V2, V3, V4, V5, V6, V7, V8, V9, V10, V11, V12, V13, V14, VE, Nat.reduceBEq, Nat.reduceAdd, Nat.reduceSub, Nat.reduceMul, Nat.reduceLeDiff, Nat.reduceLT, Nat.reduceEqDiff, Int.reduceBEq, Int.reduceBNe, Int.reduceLT, Int.reduceLE, Int.reduceAdd, Int.reduceSub, Int.reduceMul, kAgg, scD, List.all_cons, List.all_nil]
    · have h0 : 0 ≤ x := by simpa using h
      obtain ⟨s, hs⟩ : ∃ s : Nat, x = (s : Int) := ⟨x.toNat, by omega⟩
      subst hs
      have hsn : s < i := by omega
      have hat := oftenL_at (n := i) (W := W) (k := k) hsn
      have hat1 := oftenL_at (n := i) (W := W) (k := k + 1) hsn
      have hle := often_le W k s
      have hset := hoset s hsn rfl
      have hos1 : oftenN W (k + 1) s = oftenN W k s + 1 := by rw [hos s]; simp
      rw [if_pos h0] at hmm
      rw [if_pos (decide_eq_true h0)] at hss'
      have w4 : IntKind.i64.wrap ((oftenN W k s : Int) + 1) = ((oftenN W k s + 1 : Nat) : Int) := by rw [wrap_in (by omega) (by omega)]; omega
      have w5 : IntKind.i64.wrap ((someN W k : Int) + 1) = (someN W (k + 1) : Int) := by rw [wrap_in (by omega) (by omega), hss']; omega
      have hone : (((oftenL i W k).map num).getD s []).length = 1 := by rw [getD_num _ s (by omega)]; rfl
      have hset2 : ((oftenL i W k).map num).set s [.sc (.int .i64 ((oftenN W k s + 1 : Nat) : Int))] = (oftenL i W (k + 1)).map num := by rw [← hset, List.map_set]; rfl
      have hmax : cond (decide ((mostN W k : Int) < ((oftenN W k s + 1 : Nat) : Int))) ((oftenN W k s + 1 : Nat) : Int) (mostN W k : Int) = (mostN W (k + 1) : Int) := by
        have e : (s : Int).toNat = s := rfl
        rw [hmm, e, hos1]
        rcases Nat.lt_or_ge (mostN W k) (oftenN W k s + 1) with h | h
        · rw [decide_eq_true (by omega), cond_true]; omega
        · rw [decide_eq_false (by omega), cond_false]; omega
      simp only [getD_num (oftenL i W k) s (by omega), getD_num (oftenL i W (k + 1)) s (by omega), hat, hat1, hos1, num_def, w4, w5, hone, drop1_num, hset2, hmax, holen, holen1, List.length_map, wrap_nat (k := k) (by omega), nums, rowsS, nodes, zv, bv, sv, nv, bytesD, VL, VB, BEq.rfl, V1, V2, V3, V4, V5, V6, V7, V8, V9, V10, V11, V12, V13, V14, VE, Nat.reduceBEq, Nat.reduceAdd, Nat.reduceSub, Nat.reduceMul, Nat.reduceLeDiff, Nat.reduceLT, Nat.reduceEqDiff, Int.reduceBEq, Int.reduceBNe, Int.reduceLT, Int.reduceLE, Int.reduceAdd, Int.reduceSub, Int.reduceMul, kAgg, scD, List.all_cons, List.all_nil]
      refine ⟨Int.natCast_nonneg s, hsn, hsn, Int.natCast_nonneg s, hsn, hsn, Int.natCast_nonneg s, hsn, hsn, k + 1, Enter.id ?_, by omega, by show W.length - (k + 1) < W.length - k; omega⟩
      simp only [nums, rowsS, nodes, zv, bv, sv, nv, bytesD, VL, VB, BEq.rfl, V1, V2, V3, V4, V5, V6, V7, V8, V9, V10, V11, V12, V13, V14, VE, Nat.reduceBEq, Nat.reduceAdd, Nat.reduceSub, Nat.reduceMul, Nat.reduceLeDiff, Nat.reduceLT, Nat.reduceEqDiff, Int.reduceBEq, Int.reduceBNe, Int.reduceLT, Int.reduceLE, Int.reduceAdd, Int.reduceSub, Int.reduceMul, kAgg, scD, List.all_cons, List.all_nil]
    · have h0 : ¬ 0 ≤ x := by simpa using h
      rw [if_neg h0] at hmm
      rw [if_neg (by rw [decide_eq_true_eq]; exact h0)] at hss'
      simp only [wrap_nat (k := k) (by omega), nums, rowsS, nodes, zv, bv, sv, nv, bytesD, VL, VB, BEq.rfl, V1, V2, V3, V4, V5, V6, V7, V8, V9, V10, V11, V12, V13, V14, VE, Nat.reduceBEq, Nat.reduceAdd, Nat.reduceSub, Nat.reduceMul, Nat.reduceLeDiff, Nat.reduceLT, Nat.reduceEqDiff, Int.reduceBEq, Int.reduceBNe, Int.reduceLT, Int.reduceLE, Int.reduceAdd, Int.reduceSub, Int.reduceMul, kAgg, scD, List.all_cons, List.all_nil]
      refine ⟨k + 1, Enter.id ?_, by omega, by show W.length - (k + 1) < W.length - k; omega⟩
      simp only [hosame (by omega), hmm, hss', Nat.add_zero, nums, rowsS, nodes, zv, bv, sv, nv, bytesD, VL, VB, BEq.rfl, V1, V2, V3, V4, V5, V6, V7, V8, V9, V10, V11, V12, V13, V14, VE, Nat.reduceBEq, Nat.reduceAdd, Nat.reduceSub, Nat.reduceMul, Nat.reduceLeDiff, Nat.reduceLT, Nat.reduceEqDiff, Int.reduceBEq, Int.reduceBNe, Int.reduceLT, Int.reduceLE, Int.reduceAdd, Int.reduceSub, Int.reduceMul, kAgg, scD, List.all_cons, List.all_nil]
  have hk' : k = W.length := by
    have : ¬ k < W.length := by simpa using h
    omega
  subst hk'
  clear h
  obtain ⟨s, hs1, hs2⟩ := most_at (W := W) hn0 W.length fun j hj => (hWb j hj).2
  obtain ⟨_, hup1⟩ := hup s hs1
  have hkl := kindsTo_le W
  have hkk : kindsN W i = kindsTo W i := rfl
  rw [hkk] at hlow
  have hool := oftenL_len i W W.length
  have hoat := fun s hs => oftenL_at (n := i) (W := W) (k := W.length) (s := s) hs
  obtain ⟨sm, hsm'⟩ : ∃ x, someN W W.length = x := ⟨_, rfl⟩
  obtain ⟨mo, hmo⟩ : ∃ x, mostN W W.length = x := ⟨_, rfl⟩
  simp only [hsm', hmo] at hsl hml hup1 hs2 ⊢
  obtain ⟨O, hO⟩ : ∃ O, oftenL i W W.length = O := ⟨_, rfl⟩
  simp only [hO] at hool hoat
  simp only [hO, hool, List.length_map, nums, rowsS, nodes, zv, bv, sv, nv, bytesD, VL, VB, BEq.rfl, V1, V2, V3, V4, V5, V6, V7, V8, V9, V10, V11, V12, V13, V14, VE, Nat.reduceBEq, Nat.reduceAdd, Nat.reduceSub, Nat.reduceMul, Nat.reduceLeDiff, Nat.reduceLT, Nat.reduceEqDiff, Int.reduceBEq, Int.reduceBNe, Int.reduceLT, Int.reduceLE, Int.reduceAdd, Int.reduceSub, Int.reduceMul, kAgg, scD, List.all_cons, List.all_nil]
  refine LoopVC.mk (Y := Nat) (fun k => k ≤ i) (fun k => ⟨[(22, zv z), (23, zv 0), (25, nv sm), (26, nv mo), (29, nv (kindsTo W k)), (174, .osl 150 0), (175, nv i), (176, nv k)], [(150, .arr 3 0 (O.map num))]⟩) (fun k => i - k) ⟨0, Enter.id ?_, by omega⟩ ?_
  · simp only [nums, rowsS, nodes, zv, bv, sv, nv, bytesD, VL, VB, BEq.rfl, V1, V2, V3, V4, V5, V6, V7, V8, V9, V10, V11, V12, V13, V14, VE, Nat.reduceBEq, Nat.reduceAdd, Nat.reduceSub, Nat.reduceMul, Nat.reduceLeDiff, Nat.reduceLT, Nat.reduceEqDiff, Int.reduceBEq, Int.reduceBNe, Int.reduceLT, Int.reduceLE, Int.reduceAdd, Int.reduceSub, Int.reduceMul, kAgg, scD, List.all_cons, List.all_nil]
    exact ⟨rfl, rfl⟩
  intro k hk
  have hkl' := hkl k
  simp only [lt_nat, nums, rowsS, nodes, zv, bv, sv, nv, bytesD, VL, VB, BEq.rfl, V1, V2, V3, V4, V5, V6, V7, V8, V9, V10, V11, V12, V13, V14, VE, Nat.reduceBEq, Nat.reduceAdd, Nat.reduceSub, Nat.reduceMul, Nat.reduceLeDiff, Nat.reduceLT, Nat.reduceEqDiff, Int.reduceBEq, Int.reduceBNe, Int.reduceLT, Int.reduceLE, Int.reduceAdd, Int.reduceSub, Int.reduceMul, kAgg, scD, List.all_cons, List.all_nil]
  refine guardB.mk (fun h => ?_) (fun h => ?_)
  · have hk' : k < i := by simpa using h
    clear h
    have hks := kindsTo_succ W k
    have hg : decide ((0 : Int) < (oftenN W W.length k : Int)) = decide (0 < oftenN W W.length k) := by congr 1; exact propext ⟨fun h => by omega, fun h => by omega⟩
    simp only [getD_num O k (by omega), hoat k hk', hool, num_def, hg, List.length_map, nums, rowsS, nodes, zv, bv, sv, nv, bytesD, VL, VB, BEq.rfl, V1, V2, V3, V4, V5, V6, V7, V8, V9, V10, V11, V12, V13, V14, VE, Nat.reduceBEq, Nat.reduceAdd, Nat.reduceSub, Nat.reduceMul, Nat.reduceLeDiff, Nat.reduceLT, Nat.reduceEqDiff, Int.reduceBEq, Int.reduceBNe, Int.reduceLT, Int.reduceLE, Int.reduceAdd, Int.reduceSub, Int.reduceMul, kAgg, scD, List.all_cons, List.all_nil]
    refine ⟨Int.natCast_nonneg k, hk', hk', ?_⟩
    refine guardB.mk (fun h => ?_) (fun h => ?_) <;> simp only [h, nums, rowsS, nodes, zv, bv, sv, nv, bytesD, VL, VB, BEq.rfl, V1, V2, V3, V4, V5, V6, V7, V8, V9, V10, V11, V12, V13, V14, VE, Nat.reduceBEq, Nat.reduceAdd, Nat.reduceSub, Nat.reduceMul, Nat.reduceLeDiff, Nat.reduceLT, Nat.reduceEqDiff, Int.reduceBEq, Int.reduceBNe, Int.reduceLT, Int.reduceLE, Int.reduceAdd, Int.reduceSub, Int.reduceMul, kAgg, scD, List.all_cons, List.all_nil]
    · rw [if_pos h] at hks
      have w4 : IntKind.i64.wrap ((kindsTo W k : Int) + 1) = (kindsTo W (k + 1) : Int) := by rw [wrap_in (by omega) (by omega), hks]; omega
      simp only [w4, wrap_nat (k := k) (by omega), nums, rowsS, nodes, zv, bv, sv, nv, bytesD, VL, VB, BEq.rfl, V1, V2, V3, V4, V5, V6, V7, V8, V9, V10, V11, V12, V13, V14, VE, Nat.reduceBEq, Nat.reduceAdd, Nat.reduceSub, Nat.reduceMul, Nat.reduceLeDiff, Nat.reduceLT, Nat.reduceEqDiff, Int.reduceBEq, Int.reduceBNe, Int.reduceLT, Int.reduceLE, Int.reduceAdd, Int.reduceSub, Int.reduceMul, kAgg, scD, List.all_cons, List.all_nil]
      refine ⟨k + 1, Enter.id ?_, by omega, by show i - (k + 1) < i - k; omega⟩
      simp only [nums, rowsS, nodes, zv, bv, sv, nv, bytesD, VL, VB, BEq.rfl, V1, V2, V3, V4, V5, V6, V7, V8, V9, V10, V11, V12, V13, V14, VE, Nat.reduceBEq, Nat.reduceAdd, Nat.reduceSub, Nat.reduceMul, Nat.reduceLeDiff, Nat.reduceLT, Nat.reduceEqDiff, Int.reduceBEq, Int.reduceBNe, Int.reduceLT, Int.reduceLE, Int.reduceAdd, Int.reduceSub, Int.reduceMul, kAgg, scD, List.all_cons, List.all_nil]
    · rw [if_neg (by rw [h]; simp), Nat.add_zero] at hks
      simp only [wrap_nat (k := k) (by omega), nums, rowsS, nodes, zv, bv, sv, nv, bytesD, VL, VB, BEq.rfl, V1, V2, V3, V4, V5, V6, V7, V8, V9, V10, V11, V12, V13, V14, VE, Nat.reduceBEq, Nat.reduceAdd, Nat.reduceSub, Nat.reduceMul, Nat.reduceLeDiff, Nat.reduceLT, Nat.reduceEqDiff, Int.reduceBEq, Int.reduceBNe, Int.reduceLT, Int.reduceLE, Int.reduceAdd, Int.reduceSub, Int.reduceMul, kAgg, scD, List.all_cons, List.all_nil]
      refine ⟨k + 1, Enter.id ?_, by omega, by show i - (k + 1) < i - k; omega⟩
      simp only [hks, nums, rowsS, nodes, zv, bv, sv, nv, bytesD, VL, VB, BEq.rfl, V1, V2, V3, V4, V5, V6, V7, V8, V9, V10, V11, V12, V13, V14, VE, Nat.reduceBEq, Nat.reduceAdd, Nat.reduceSub, Nat.reduceMul, Nat.reduceLeDiff, Nat.reduceLT, Nat.reduceEqDiff, Int.reduceBEq, Int.reduceBNe, Int.reduceLT, Int.reduceLE, Int.reduceAdd, Int.reduceSub, Int.reduceMul, kAgg, scD, List.all_cons, List.all_nil]
  have hk' : k = i := by
    have : ¬ k < i := by simpa using h
    omega
  subst hk'
  clear h
  have w4 : IntKind.i64.wrap ((sm : Int) - (mo : Int)) = (sm : Int) - (mo : Int) := wrap_in (by omega) (by omega)
  have w5 : IntKind.i64.wrap ((kindsTo W k : Int) - 1) = (kindsTo W k : Int) - 1 := wrap_in (by omega) (by omega)
  simp only [w4, w5, decide_eq_true (show z ≤ (sm : Int) - (mo : Int) by omega), decide_eq_true (show (kindsTo W k : Int) - 1 ≤ z by omega), nums, rowsS, nodes, zv, bv, sv, nv, bytesD, VL, VB, BEq.rfl, V1, V2, V3, V4, V5, V6, V7, V8, V9, V10, V11, V12, V13, V14, VE, Nat.reduceBEq, Nat.reduceAdd, Nat.reduceSub, Nat.reduceMul, Nat.reduceLeDiff, Nat.reduceLT, Nat.reduceEqDiff, Int.reduceBEq, Int.reduceBNe, Int.reduceLT, Int.reduceLE, Int.reduceAdd, Int.reduceSub, Int.reduceMul, kAgg, scD, List.all_cons, List.all_nil]
  refine CallX.mk works_ok rfl ?_
  simp only [nums, rowsS, nodes, zv, bv, sv, nv, bytesD, VL, VB, BEq.rfl, V1, V2, V3, V4, V5, V6, V7, V8, V9, V10, V11, V12, V13, V14, VE, Nat.reduceBEq, Nat.reduceAdd, Nat.reduceSub, Nat.reduceMul, Nat.reduceLeDiff, Nat.reduceLT, Nat.reduceEqDiff, Int.reduceBEq, Int.reduceBNe, Int.reduceLT, Int.reduceLE, Int.reduceAdd, Int.reduceSub, Int.reduceMul, kAgg, scD, List.all_cons, List.all_nil]

end Go.Cp
namespace Go.Proofs.Ytfalggfambgkeaa
open Go Go.Proofs Go.RowKit Go.ChangeShapes Go.WideShapes Go.ChangeAt Go.Vx Go.Cp

theorem sankoffSteps_lifted (os : Os) (started : os.Started) (H : Type) (enc : TypeId × Value → H) :
    ReturnsInHanded {} Try.checked os 3 .any (Rows.sankoffStepsSpec.pre6 enc Try.prog Try.f3 Rows.sankoffStepsRow.domain false) (Rows.sankoffStepsSpec.post enc Try.prog Try.f3 false true false false) := by
  refine law_lifted (m := 8) (tb := 4) os started H enc own laid (by kernel_rfl) Try.func3 rfl Try.underlying4 rfl ?_ (by kernel_rfl) (by kernel_rfl)
    (ChangeSpec.witness6 (enc := enc) (C := Try.checked) false ⟨#[], #[.slice none 0 0, .slice none 0 0, .slice none 0 0, .int .u8 0], []⟩ 8 (by kernel_rfl) (by kernel_rfl) (by kernel_rfl) (by kernel_rfl)) ?_
  · rw [Try.params3]
    intro ds hd
    match ds, hd with
    | [d1, d2, d3, d4], _ => exact ⟨rfl, rfl, rfl⟩
  · rw [Try.params3]
    intro dss h
    obtain ⟨x1, x2, x3, x4, rfl, h1, h2, h3, h4⟩ := typedL4 h
    obtain ⟨ps, rfl, hp, hpl⟩ := typed_bytes (m := 6) h1
    obtain ⟨ss, rfl, hss, _⟩ := typed_bytes (m := 6) h2
    obtain ⟨os, rfl, hos, hol⟩ := typed_bytes (m := 6) h3
    obtain ⟨c, rfl, hc⟩ := typed_byte (m := 7) h4
    simp only [argsAV, argAV, Try.underlying22, Try.underlying5]
    exact steps_law ps ss os c hp hpl hss hos hol hc

theorem sankoffSteps_holds : Rows.SankoffStepsSaid :=
  OpenClaim.holds_of_wide 3 Try.f3 rfl rfl rfl rfl rfl rfl rfl ⟨rfl, rfl, rfl, rfl, rfl⟩ rfl rfl rfl rfl rfl (by kernel_rfl) Try.func3 (by kernel_rfl)
    (of_decide_eq_true (by kernel_rfl)) (by unfold Func.isWrapper; first | (rw [if_pos (by decide +kernel)]; kernel_rfl) | (rw [if_neg (by decide +kernel)]; exact ⟨rfl, rfl⟩))
    (fun os started H enc _ => sankoffSteps_lifted os started H enc)
#print axioms sankoffSteps_holds

end Go.Proofs.Ytfalggfambgkeaa
