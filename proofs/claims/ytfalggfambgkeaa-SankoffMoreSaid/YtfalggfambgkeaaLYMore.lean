/-
  SankoffMore returns true for every input: if all changes cost more by the same, so does each node but the root, and nothing else changes. Conditions: none.
-/
import Derived.Test.YtfalggfambgkeaaMN
set_option linter.unusedVariables false
set_option linter.unusedSimpArgs false
set_option maxHeartbeats 8000000
set_option maxRecDepth 100000
namespace Go.Cp
open Go Go.Proofs Go.Vx

def raiseR (r : List Int) (d : Int) (k : Nat) : List Int := (r.take k).map (plusI · d) ++ r.drop k
theorem raiseR_zero (r : List Int) (d : Int) : raiseR r d 0 = r := by simp [raiseR]
theorem raiseR_all {r : List Int} {d : Int} : raiseR r d r.length = r.map (plusI · d) := by simp [raiseR]
theorem raiseR_len {r : List Int} {d : Int} {k : Nat} (h : k ≤ r.length) : (raiseR r d k).length = r.length := by simp [raiseR]; omega
theorem raiseR_at {r : List Int} {d : Int} {k : Nat} (h : k < r.length) : (raiseR r d k).getD k 0 = r.getD k 0 := by
  have e : (List.map (plusI · d) (r.take k)).length = k := by simp; omega
  rw [raiseR, List.getD_eq_getElem?_getD, List.getElem?_append_right (by omega), e, Nat.sub_self, List.getElem?_drop, Nat.add_zero, ← List.getD_eq_getElem?_getD]
theorem raiseR_set {r : List Int} {d : Int} {k : Nat} (h : k < r.length) : (raiseR r d k).set k (plusI (r.getD k 0) d) = raiseR r d (k + 1) := by
  have e : (List.map (plusI · d) (r.take k)).length = k := by simp; omega
  rw [raiseR, raiseR, List.set_append, if_neg (by omega), e, Nat.sub_self, List.drop_eq_getElem_cons h, List.set_cons_zero, List.take_add_one, List.getElem?_eq_getElem h, List.map_append, List.append_assoc]
  rw [getD_of 0 r k h]; rfl
theorem raiseR_same {r : List Int} {d : Int} {k : Nat} (h : k < r.length) (hx : plusI (r.getD k 0) d = r.getD k 0) : raiseR r d (k + 1) = raiseR r d k := by
  rw [← raiseR_set h, hx]
  have hl := raiseR_len (d := d) (k := k) (by omega : k ≤ r.length)
  have ha := raiseR_at (d := d) h
  rw [← ha]
  refine List.ext_getElem (by simp) fun i h1 h2 => ?_
  rw [List.getElem_set]
  split
  · rename_i e
    subst e
    rw [getD_of 0 _ k (by omega)]
  · rfl
def raiseM (m : List (List Int)) (d : Int) (i : Nat) : List (List Int) := (m.take i).map (fun r => r.map (plusI · d)) ++ m.drop i
theorem raiseM_zero (m : List (List Int)) (d : Int) : raiseM m d 0 = m := by simp [raiseM]
theorem raiseM_len {m : List (List Int)} {d : Int} {i : Nat} (h : i ≤ m.length) : (raiseM m d i).length = m.length := by simp [raiseM]; omega
theorem raiseM_row {m : List (List Int)} {d : Int} {i : Nat} (h : i < m.length) : (raiseM m d i).getD i [] = m.getD i [] := by
  have e : (List.map (fun r : List Int => r.map (plusI · d)) (m.take i)).length = i := by simp; omega
  rw [raiseM, List.getD_eq_getElem?_getD, List.getElem?_append_right (by omega), e, Nat.sub_self, List.getElem?_drop, Nat.add_zero, ← List.getD_eq_getElem?_getD]
theorem raiseM_set {m : List (List Int)} {d : Int} {i : Nat} (h : i < m.length) : (raiseM m d i).set i ((m.getD i []).map (plusI · d)) = raiseM m d (i + 1) := by
  have e : (List.map (fun r : List Int => r.map (plusI · d)) (m.take i)).length = i := by simp; omega
  rw [raiseM, raiseM, List.set_append, if_neg (by omega), e, Nat.sub_self, List.drop_eq_getElem_cons h, List.set_cons_zero, List.take_add_one, List.getElem?_eq_getElem h, List.map_append, List.append_assoc]
  rw [getD_of [] m i h]; rfl
theorem raiseM_all {m : List (List Int)} {d : Int} : raiseM m d m.length = m.map fun r => r.map (plusI · d) := by simp [raiseM]
/-- row i, half done -/
def midM (m : List (List Int)) (d : Int) (i k : Nat) : List (List Int) := (raiseM m d i).set i (raiseR (m.getD i []) d k)
theorem midM_zero {m : List (List Int)} {d : Int} {i : Nat} (h : i < m.length) : midM m d i 0 = raiseM m d i := by
  rw [midM, raiseR_zero, ← raiseM_row (d := d) h]
  have hl := raiseM_len (d := d) (i := i) (by omega : i ≤ m.length)
  refine List.ext_getElem (by simp) fun j h1 h2 => ?_
  rw [List.getElem_set]
  split
  · rename_i e
    subst e
    rw [getD_of [] _ i (by omega)]
  · rfl
theorem midM_all {m : List (List Int)} {d : Int} {i : Nat} (h : i < m.length) : midM m d i (m.getD i []).length = raiseM m d (i + 1) := by rw [midM, raiseR_all, raiseM_set h]
theorem midM_len {m : List (List Int)} {d : Int} {i k : Nat} (h : i < m.length) : (midM m d i k).length = m.length := by rw [midM, List.length_set, raiseM_len (by omega)]
theorem midM_row {m : List (List Int)} {d : Int} {i k : Nat} (h : i < m.length) : (midM m d i k).getD i [] = raiseR (m.getD i []) d k := by
  have hl := raiseM_len (d := d) (i := i) (by omega : i ≤ m.length)
  rw [midM, List.getD_eq_getElem?_getD, List.getElem?_set_self (by omega)]; rfl
theorem midM_set {m : List (List Int)} {d : Int} {i k : Nat} (h : i < m.length) (r : List Int) : (midM m d i k).set i r = (raiseM m d i).set i r := by rw [midM, List.set_set]

theorem sc_numsM (e : Nat) (l : List Int) : ScFr (.fr e (l.map num)) := by
  intro x hx
  obtain ⟨n, _, rfl⟩ := List.mem_map.1 hx
  rfl
theorem sc_res (l : List Int) (e : Int) : ScFr (.tp [.fr 3 (l.map num), zv e]) := fun v hv => by
  rcases List.mem_cons.1 hv with rfl | hv
  · exact sc_numsM 3 l
  · rcases List.mem_cons.1 hv with rfl | hv
    · rfl
    · cases hv
theorem typed_u32 {m : Nat} {x : List D} (h : Typed Try.prog (m + 1) 44 x) : ∃ n : Nat, x = [.sc (.int .u32 n)] ∧ n < 4294967296 := by
  simp only [Typed, Try.underlying44, TypedK] at h
  obtain ⟨n, rfl, hn⟩ := h
  have h1 : 0 ≤ n ∧ n < 4294967296 := by
    simp [Lit.wf, IntKind.min, IntKind.max, IntKind.bits, IntKind.signed] at hn
    omega
  exact ⟨n.toNat, by rw [Int.toNat_of_nonneg h1.1], by omega⟩

theorem rowsN_row (m : List (List Int)) (i : Nat) (h : i < m.length) : (rowsN m).getD i [] = (m.getD i []).map num := by
  simp [rowsN, List.getD, List.getElem?_map, List.getElem?_eq_getElem h]
theorem rowsN_set (m : List (List Int)) (i : Nat) (r : List Int) : (rowsN m).set i (r.map num) = rowsN (m.set i r) := by rw [rowsN, rowsN, List.map_set]

theorem costN_le (n : Nat) (l : List Nat) (i k : Nat) : -1 ≤ costN n l true i k ∧ costN n l true i k ≤ 4 := by
  have h : costN n l true i k = if true = true ∧ (if l = [] then 3 * i * k % 256 else l.getD ((i * n + k) % l.length) 0) % 7 = 6 then -1 else (((if l = [] then 3 * i * k % 256 else l.getD ((i * n + k) % l.length) 0) % 5 : Nat) : Int) := rfl
  generalize (if l = [] then 3 * i * k % 256 else l.getD ((i * n + k) % l.length) 0) = x at h
  rw [h]
  split <;> omega
theorem sq_cell (n : Nat) (cs : List Nat) (a b : Nat) : -1 ≤ cellAt (matD n cs) a b ∧ cellAt (matD n cs) a b ≤ 4 := by
  rw [cellAt, matD, squareT]
  by_cases ha : a < n
  · by_cases hb : b < n
    · have e : (((List.range n).map fun i => squareR n cs true i n).getD a []).getD b 0 = costN n cs true a b := by
        simp [squareR, List.getD, ha, hb]
      rw [e]; exact costN_le n cs a b
    · have e : (((List.range n).map fun i => squareR n cs true i n).getD a []).getD b 0 = 0 := by
        simp [squareR, List.getD, ha, hb]
      rw [e]; omega
  · have e : (((List.range n).map fun i => squareR n cs true i n).getD a []).getD b 0 = 0 := by
      simp [squareR, List.getD, ha]
    rw [e]; omega
theorem raise_ok {m : List (List Int)} {d : Int} (hm : okM m = true) (hd : 0 ≤ d ∧ d ≤ 1000000) (hc : ∀ a b, -1 ≤ cellAt m a b ∧ cellAt m a b ≤ 4) : okM (raiseM m d m.length) = true := by
  rw [okM, raiseM_len (Nat.le_refl _)]
  simp only [okM, Bool.and_eq_true, decide_eq_true_eq, List.all_eq_true] at hm ⊢
  refine ⟨hm.1, hm.2.1, fun r hr => ?_⟩
  rw [raiseM_all, List.mem_map] at hr
  obtain ⟨r0, hr0, rfl⟩ := hr
  have h0 := hm.2.2 r0 hr0
  obtain ⟨a, ha, ea⟩ := List.mem_iff_getElem.1 hr0
  simp only [okRow, Bool.and_eq_true, decide_eq_true_eq, List.all_eq_true] at h0 ⊢
  refine ⟨by rw [List.length_map]; exact h0.1, fun x hx => ?_⟩
  obtain ⟨y, hy, rfl⟩ := List.mem_map.1 hx
  obtain ⟨b, hb, eb⟩ := List.mem_iff_getElem.1 hy
  have hyc : cellAt m a b = y := by
    rw [cellAt, getD_of [] m a ha, ea, getD_of 0 r0 b hb, eb]
  have hbd := hc a b
  rw [hyc] at hbd
  rw [plusI]
  split
  · decide
  · simp only [okX, decide_eq_true_eq, Bool.and_eq_true]; omega
theorem raise_shift {m : List (List Int)} {d : Int} (h0 : 0 ≤ d) (h1 : ∀ a b, -1 ≤ cellAt m a b) (hl : ∀ a, a < m.length → (m.getD a []).length = m.length) : Shift m (raiseM m d m.length) d where
  len := raiseM_len (Nat.le_refl _)
  pos := h0
  m1 := h1
  cell := fun a b ha hb => by
    have hra := hl a ha
    rw [raiseM_all, cellAt, cellAt]
    have e : (m.map fun r => r.map (plusI · d)).getD a [] = (m.getD a []).map (plusI · d) := by
      simp [List.getD, List.getElem?_map, List.getElem?_eq_getElem ha]
    rw [e]
    generalize m.getD a [] = r at hra
    have hb' : b < r.length := by omega
    simp [List.getD, List.getElem?_map, List.getElem?_eq_getElem hb']

theorem more_law (ps cs ss : List Nat) (c mr : Nat) (hp : ∀ i, ps.getD i 0 < 256) (hpl : ps.length ≤ 9223372036854775807) (hcs : ∀ i, cs.getD i 0 < 256) (hss : ∀ i, ss.getD i 0 < 256) (hc : c < 256) (hmr : mr < 4294967296) :
    Ok Try.prog E 5 [.c (bytesD ps), .c (bytesD cs), .c (bytesD ss), .c (.sc (.int .u8 c)), .c (.sc (.int .u32 mr))] (bv true) := by
  refine ok_of_vc (L := []) (ts := [10]) envOK mixed Try.func5 rfl (by kernel_rfl) rfl (by kernel_rfl) rfl fun hl => ?_
  obtain ⟨n, hn⟩ : ∃ n, 1 + c % 12 = n := ⟨_, rfl⟩
  have hn0 : 0 < n := by omega
  have hn12 : n ≤ 12 := by omega
  have w1 : IntKind.i64.wrap (c : Int) = (c : Int) := wrap_in (by omega) (by omega)
  have w2 : Int.tmod (c : Int) 12 = ((c % 12 : Nat) : Int) := tmodN c 12
  have w3 : IntKind.i64.wrap (1 + ((c % 12 : Nat) : Int)) = (n : Int) := by rw [wrap_in (by omega) (by omega)]; omega
  simp only [Try.f5, w1, w2, w3, nums, rowsS, nodes, zv, bv, sv, nv, bytesD, VL, VB, BEq.rfl, V1, V2, V3, V4, V5, V6, V7, V8, V9, V10, V11, V12, V13, V14, VE, Nat.reduceBEq, Nat.reduceAdd, Nat.reduceSub, Nat.reduceMul, Nat.reduceLeDiff, Nat.reduceLT, Nat.reduceEqDiff, Int.reduceBEq, Int.reduceBNe, Int.reduceLT, Int.reduceLE, Int.reduceAdd, Int.reduceSub, Int.reduceMul, kAgg, scD, List.all_cons, List.all_nil]
  refine ⟨by decide, ?_⟩
  refine CallX.mk (grown_ok ps 62 (by omega) hp hpl) rfl ?_
  simp only [nums, rowsS, nodes, zv, bv, sv, nv, bytesD, VL, VB, BEq.rfl, V1, V2, V3, V4, V5, V6, V7, V8, V9, V10, V11, V12, V13, V14, VE, Nat.reduceBEq, Nat.reduceAdd, Nat.reduceSub, Nat.reduceMul, Nat.reduceLeDiff, Nat.reduceLT, Nat.reduceEqDiff, Int.reduceBEq, Int.reduceBNe, Int.reduceLT, Int.reduceLE, Int.reduceAdd, Int.reduceSub, Int.reduceMul, kAgg, scD, List.all_cons, List.all_nil]
  refine CallX.mut (CallMVC.mk [] [(900, 47)] (square_okN n cs true hn0 hn12 hcs) ?_ ?_)
  · simp only [nums, rowsS, nodes, zv, bv, sv, nv, bytesD, VL, VB, BEq.rfl, V1, V2, V3, V4, V5, V6, V7, V8, V9, V10, V11, V12, V13, V14, VE, Nat.reduceBEq, Nat.reduceAdd, Nat.reduceSub, Nat.reduceMul, Nat.reduceLeDiff, Nat.reduceLT, Nat.reduceEqDiff, Int.reduceBEq, Int.reduceBNe, Int.reduceLT, Int.reduceLE, Int.reduceAdd, Int.reduceSub, Int.reduceMul, kAgg, scD, List.all_cons, List.all_nil]
  simp only [nums, rowsS, nodes, zv, bv, sv, nv, bytesD, VL, VB, BEq.rfl, V1, V2, V3, V4, V5, V6, V7, V8, V9, V10, V11, V12, V13, V14, VE, Nat.reduceBEq, Nat.reduceAdd, Nat.reduceSub, Nat.reduceMul, Nat.reduceLeDiff, Nat.reduceLT, Nat.reduceEqDiff, Int.reduceBEq, Int.reduceBNe, Int.reduceLT, Int.reduceLE, Int.reduceAdd, Int.reduceSub, Int.reduceMul, kAgg, scD, List.all_cons, List.all_nil]
  have hck := drawn_check n ps cs ss hn0 hn12
  have hlp := leaves_pos (treeD_ok ps)
  have hll := leaves_len (treeD ps)
  have hnl : (treeD ps).length = min ps.length 62 + 1 := grownTo_len ps _
  have hsm := treeD_small ps
  have htk := treeD_ok ps
  have hml : (matD n cs).length = n := squareT_len _ _ _ _
  have hrows := (okM_mat (square_okM n cs true hn0 hn12)).2.2.1
  have hcell : ∀ a b, -1 ≤ cellAt (matD n cs) a b ∧ cellAt (matD n cs) a b ≤ 4 := sq_cell n cs
  refine CallX.mkF (known_ok (leavesOf (treeD ps)) n ss hn0 hn12 (by omega) hss) rfl (sc_numsM 3 _) ?_
  obtain ⟨W, hW⟩ : ∃ W, knownL n ss (leavesOf (treeD ps)).length = W := ⟨_, rfl⟩
  have hWl : W.length = (leavesOf (treeD ps)).length := by rw [← hW, knownL_len]
  have hWb : ∀ k, k < W.length → -1 ≤ W.getD k 0 ∧ W.getD k 0 < n := fun k hk => by
    rw [← hW, known_at (by omega)]; exact knownN_bd n ss k hn0
  obtain ⟨T, hT⟩ : ∃ T, treeD ps = T := ⟨_, rfl⟩
  obtain ⟨M, hM⟩ : ∃ M, matD n cs = M := ⟨_, rfl⟩
  simp only [hW] at hck ⊢
  simp only [hT, hM] at hck hlp hll hml hWl hsm hnl hrows hcell htk ⊢
  simp only [nums, rowsS, nodes, zv, bv, sv, nv, bytesD, VL, VB, BEq.rfl, V1, V2, V3, V4, V5, V6, V7, V8, V9, V10, V11, V12, V13, V14, VE, Nat.reduceBEq, Nat.reduceAdd, Nat.reduceSub, Nat.reduceMul, Nat.reduceLeDiff, Nat.reduceLT, Nat.reduceEqDiff, Int.reduceBEq, Int.reduceBNe, Int.reduceLT, Int.reduceLE, Int.reduceAdd, Int.reduceSub, Int.reduceMul, kAgg, scD, List.all_cons, List.all_nil]
  obtain ⟨by_, hby⟩ : ∃ d, mr % 1000001 = d := ⟨_, rfl⟩
  have hbyl : by_ ≤ 1000000 := by omega
  have hd0 : (0 : Int) ≤ (by_ : Int) ∧ (by_ : Int) ≤ 1000000 := by omega
  have hokM : okM M = true := by rw [← hM]; exact square_okM n cs true hn0 hn12
  have hsh : Shift M (raiseM M by_ M.length) by_ := raise_shift hd0.1 (fun a b => (hcell a b).1) (fun a ha => by have := hrows a ha; omega)
  have hokM' := raise_ok (d := by_) hokM hd0 hcell
  have hck' : checkE T (raiseM M by_ M.length) W = 0 := check_of htk hokM' (by omega) fun k hk => by
    rw [raiseM_len (Nat.le_refl _)]; exact hml ▸ hWb k hk
  have g := good_of hck
  have hmb : errP T M W = 0 → 0 ≤ minV T M W ∧ minV T M W ≤ 62 * 1073741824 := fun he => by
    have h1 := (errP_zero he).2
    have h2 := bestTo_bd (c := solF T M W 0) (B := 62 * 1073741824) (by omega) M.length fun s _ => g.bd 0 s
    have h3 : (bestTo (solF T M W 0) M.length).1 = (rootP T M W).1 := rfl
    rw [minV, if_pos he]
    omega
  have he1 := err_plus hsh hck hck'
  have he2 := fun h => min_plus hsh hck hck' h
  have he3 := roots_plus hsh hck hck'
  have he4 := best_plus hsh hck hck'
  obtain ⟨he5, he6⟩ := errW_plus hsh hck hck'
  simp only [rowsN_D, nums, rowsS, nodes, zv, bv, sv, nv, bytesD, VL, VB, BEq.rfl, V1, V2, V3, V4, V5, V6, V7, V8, V9, V10, V11, V12, V13, V14, VE, Nat.reduceBEq, Nat.reduceAdd, Nat.reduceSub, Nat.reduceMul, Nat.reduceLeDiff, Nat.reduceLT, Nat.reduceEqDiff, Int.reduceBEq, Int.reduceBNe, Int.reduceLT, Int.reduceLE, Int.reduceAdd, Int.reduceSub, Int.reduceMul, kAgg, scD, List.all_cons, List.all_nil]
  refine CallX.mk (Min_ok T M W hsm) rfl ?_
  simp only [rowsN_D, nums, rowsS, nodes, zv, bv, sv, nv, bytesD, VL, VB, BEq.rfl, V1, V2, V3, V4, V5, V6, V7, V8, V9, V10, V11, V12, V13, V14, VE, Nat.reduceBEq, Nat.reduceAdd, Nat.reduceSub, Nat.reduceMul, Nat.reduceLeDiff, Nat.reduceLT, Nat.reduceEqDiff, Int.reduceBEq, Int.reduceBNe, Int.reduceLT, Int.reduceLE, Int.reduceAdd, Int.reduceSub, Int.reduceMul, kAgg, scD, List.all_cons, List.all_nil]
  refine CallX.mkF (Best_okF T M W hsm) rfl (sc_res _ _) ?_
  simp only [rowsN_D, nums, rowsS, nodes, zv, bv, sv, nv, bytesD, VL, VB, BEq.rfl, V1, V2, V3, V4, V5, V6, V7, V8, V9, V10, V11, V12, V13, V14, VE, Nat.reduceBEq, Nat.reduceAdd, Nat.reduceSub, Nat.reduceMul, Nat.reduceLeDiff, Nat.reduceLT, Nat.reduceEqDiff, Int.reduceBEq, Int.reduceBNe, Int.reduceLT, Int.reduceLE, Int.reduceAdd, Int.reduceSub, Int.reduceMul, kAgg, scD, List.all_cons, List.all_nil]
  refine CallX.mk (Ways_ok T M W hsm) rfl ?_
  simp only [rowsN_D, nums, rowsS, nodes, zv, bv, sv, nv, bytesD, VL, VB, BEq.rfl, V1, V2, V3, V4, V5, V6, V7, V8, V9, V10, V11, V12, V13, V14, VE, Nat.reduceBEq, Nat.reduceAdd, Nat.reduceSub, Nat.reduceMul, Nat.reduceLeDiff, Nat.reduceLT, Nat.reduceEqDiff, Int.reduceBEq, Int.reduceBNe, Int.reduceLT, Int.reduceLE, Int.reduceAdd, Int.reduceSub, Int.reduceMul, kAgg, scD, List.all_cons, List.all_nil]
  refine CallX.mkF (Roots_okF T M W hsm) rfl (sc_res _ _) ?_
  have w4 : Int.tmod (mr : Int) 1000001 = (by_ : Int) := by rw [← hby]; exact tmodN mr 1000001
  have w5 : IntKind.u32.wrap (by_ : Int) = (by_ : Int) := by rw [IntKind.wrap_u32]; omega
  have w6 : IntKind.i64.wrap (by_ : Int) = (by_ : Int) := wrap_in (by omega) (by omega)
  obtain ⟨B, hB⟩ : ∃ B, bestV T M W = B := ⟨_, rfl⟩
  obtain ⟨R, hR⟩ : ∃ R, rootsV T M W = R := ⟨_, rfl⟩
  obtain ⟨a, ha⟩ : ∃ a, minV T M W = a := ⟨_, rfl⟩
  obtain ⟨e, he⟩ : ∃ e, errP T M W = e := ⟨_, rfl⟩
  obtain ⟨u, hu⟩ : ∃ u, waysV T M W = u := ⟨_, rfl⟩
  obtain ⟨f, hf⟩ : ∃ f, errW T M W = f := ⟨_, rfl⟩
  simp only [hB, hR, ha, he, hu, hf] at hmb he1 he2 he3 he4 he5 he6 ⊢
  simp only [w4, w5, w6, nums, rowsS, nodes, zv, bv, sv, nv, bytesD, VL, VB, BEq.rfl, V1, V2, V3, V4, V5, V6, V7, V8, V9, V10, V11, V12, V13, V14, VE, Nat.reduceBEq, Nat.reduceAdd, Nat.reduceSub, Nat.reduceMul, Nat.reduceLeDiff, Nat.reduceLT, Nat.reduceEqDiff, Int.reduceBEq, Int.reduceBNe, Int.reduceLT, Int.reduceLE, Int.reduceAdd, Int.reduceSub, Int.reduceMul, kAgg, scD, List.all_cons, List.all_nil]
  refine ⟨by decide, ?_⟩
  refine LoopVC.mk (Y := Nat) (fun i => i ≤ M.length) (fun i => ⟨[(12, .c (nodes T)), (14, .osl 47 0), (15, .osl 51 0), (16, zv a), (17, zv e), (18, .osl 63 0), (20, zv u), (21, zv f), (22, .osl 77 0), (24, nv by_), (83, .osl 47 0), (84, nv n), (85, nv i)], [(77, .arr 3 0 (R.map num)), (63, .arr 3 0 (B.map num)), (51, .arr 3 0 (W.map num)), (47, .nest 29 0 0 none (rowsN (raiseM M by_ i)))]⟩) (fun i => M.length - i) ⟨0, Enter.id ?_, by omega⟩ ?_
  · simp only [raiseM_zero, rowsN_len, hml, nums, rowsS, nodes, zv, bv, sv, nv, bytesD, VL, VB, BEq.rfl, V1, V2, V3, V4, V5, V6, V7, V8, V9, V10, V11, V12, V13, V14, VE, Nat.reduceBEq, Nat.reduceAdd, Nat.reduceSub, Nat.reduceMul, Nat.reduceLeDiff, Nat.reduceLT, Nat.reduceEqDiff, Int.reduceBEq, Int.reduceBNe, Int.reduceLT, Int.reduceLE, Int.reduceAdd, Int.reduceSub, Int.reduceMul, kAgg, scD, List.all_cons, List.all_nil]
    rfl
  intro i hi
  have hrl := raiseM_len (d := by_) hi
  rw [hml] at hi
  simp only [lt_nat, nums, rowsS, nodes, zv, bv, sv, nv, bytesD, VL, VB, BEq.rfl, V1, V2, V3, V4, V5, V6, V7, V8, V9, V10, V11, V12, V13, V14, VE, Nat.reduceBEq, Nat.reduceAdd, Nat.reduceSub, Nat.reduceMul, Nat.reduceLeDiff, Nat.reduceLT, Nat.reduceEqDiff, Int.reduceBEq, Int.reduceBNe, Int.reduceLT, Int.reduceLE, Int.reduceAdd, Int.reduceSub, Int.reduceMul, kAgg, scD, List.all_cons, List.all_nil]
  refine guardB.mk (fun h => ?_) (fun h => ?_)
  · have hi' : i < n := by simpa using h
    clear h
    have hiM : i < M.length := by omega
    have hmz := midM_zero (d := by_) hiM
    have hma := midM_all (d := by_) hiM
    have hmr := fun k => midM_row (d := by_) (k := k) hiM
    have hmlk := fun k => midM_len (d := by_) (k := k) hiM
    have hms := fun k r => midM_set (d := by_) (k := k) hiM r
    have hrow := hrows i hiM
    have hcl : ∀ b, -1 ≤ (M.getD i []).getD b 0 ∧ (M.getD i []).getD b 0 ≤ 4 := fun b => hcell i b
    have hrn : (rowsN (raiseM M by_ i)).getD i [] = (M.getD i []).map num := by rw [rowsN_row _ _ (by omega), raiseM_row hiM]
    have hrnl : (rowsN (raiseM M by_ i)).length = n := by rw [rowsN_len, hrl, hml]
    obtain ⟨r, hr⟩ : ∃ r, M.getD i [] = r := ⟨_, rfl⟩
    simp only [hr] at hma hmr hrow hcl hrn
    have hrl2 : r.length = n := by omega
    simp only [hrn, hrnl, hrl2, List.length_map, nums, rowsS, nodes, zv, bv, sv, nv, bytesD, VL, VB, BEq.rfl, V1, V2, V3, V4, V5, V6, V7, V8, V9, V10, V11, V12, V13, V14, VE, Nat.reduceBEq, Nat.reduceAdd, Nat.reduceSub, Nat.reduceMul, Nat.reduceLeDiff, Nat.reduceLT, Nat.reduceEqDiff, Int.reduceBEq, Int.reduceBNe, Int.reduceLT, Int.reduceLE, Int.reduceAdd, Int.reduceSub, Int.reduceMul, kAgg, scD, List.all_cons, List.all_nil]
    refine ⟨Int.natCast_nonneg i, hi', hi', ?_⟩
    refine LoopVC.mk (Y := Nat) (fun k => k ≤ n) (fun k => ⟨[(12, .c (nodes T)), (14, .osl 47 0), (15, .osl 51 0), (16, zv a), (17, zv e), (18, .osl 63 0), (20, zv u), (21, zv f), (22, .osl 77 0), (24, nv by_), (26, .fsl 47 0 i), (83, .osl 47 0), (84, nv n), (85, nv i), (90, nv n), (91, nv k)], [(77, .arr 3 0 (R.map num)), (63, .arr 3 0 (B.map num)), (51, .arr 3 0 (W.map num)), (47, .nest 29 0 0 none (rowsN (midM M by_ i k)))]⟩) (fun k => n - k) ⟨0, Enter.id ?_, by omega⟩ ?_
    · simp only [hmz, nums, rowsS, nodes, zv, bv, sv, nv, bytesD, VL, VB, BEq.rfl, V1, V2, V3, V4, V5, V6, V7, V8, V9, V10, V11, V12, V13, V14, VE, Nat.reduceBEq, Nat.reduceAdd, Nat.reduceSub, Nat.reduceMul, Nat.reduceLeDiff, Nat.reduceLT, Nat.reduceEqDiff, Int.reduceBEq, Int.reduceBNe, Int.reduceLT, Int.reduceLE, Int.reduceAdd, Int.reduceSub, Int.reduceMul, kAgg, scD, List.all_cons, List.all_nil]
      rfl
    intro k hk
    simp only [lt_nat, nums, rowsS, nodes, zv, bv, sv, nv, bytesD, VL, VB, BEq.rfl, V1, V2, V3, V4, V5, V6, V7, V8, V9, V10, V11, V12, V13, V14, VE, Nat.reduceBEq, Nat.reduceAdd, Nat.reduceSub, Nat.reduceMul, Nat.reduceLeDiff, Nat.reduceLT, Nat.reduceEqDiff, Int.reduceBEq, Int.reduceBNe, Int.reduceLT, Int.reduceLE, Int.reduceAdd, Int.reduceSub, Int.reduceMul, kAgg, scD, List.all_cons, List.all_nil]
    refine guardB.mk (fun h => ?_) (fun h => ?_)
    · have hk' : k < n := by simpa using h
      clear h
      have hkr : k < r.length := by omega
      have hrr : ∀ k, (rowsN (midM M by_ i k)).getD i [] = (raiseR r by_ k).map num := fun k => by rw [rowsN_row _ _ (by rw [hmlk]; omega), hmr]
      have hrc := raiseR_at (d := by_) hkr
      have hrs := raiseR_set (d := by_) hkr
      have hrl3 := raiseR_len (d := by_) (k := k) (by omega : k ≤ r.length)
      have hrsame := raiseR_same (d := by_) hkr
      have hck := hcl k
      obtain ⟨x, hx⟩ : ∃ x, r.getD k 0 = x := ⟨_, rfl⟩
      rw [hx] at hrc hrs hrsame hck
      have hget : ((raiseR r by_ k).map num).getD k [] = num x := by rw [getD_num _ k (by omega), hrc]
      have hset : ((raiseR r by_ k).map num).set k [.sc (.int .i64 (plusI x by_))] = (raiseR r by_ (k + 1)).map num := by rw [← hrs, List.map_set]; rfl
      have hall : ∀ k, rowsN (midM M by_ i k) = (rowsN (raiseM M by_ i)).set i ((raiseR r by_ k).map num) := fun k => by rw [rowsN_set, midM, hr]
      have hset2 : (rowsN (midM M by_ i k)).set i ((raiseR r by_ (k + 1)).map num) = rowsN (midM M by_ i (k + 1)) := by
        rw [hall k, hall (k + 1), List.set_set]
      simp only [hrr, hget, hrl3, hrl2, num_def, List.length_map, nums, rowsS, nodes, zv, bv, sv, nv, bytesD, VL, VB, BEq.rfl, V1, V2, V3, V4, V5, V6, V7, V8, V9, V10, V11, V12, V13, V14, VE, Nat.reduceBEq, Nat.reduceAdd, Nat.reduceSub, Nat.reduceMul, Nat.reduceLeDiff, Nat.reduceLT, Nat.reduceEqDiff, Int.reduceBEq, Int.reduceBNe, Int.reduceLT, Int.reduceLE, Int.reduceAdd, Int.reduceSub, Int.reduceMul, kAgg, scD, List.all_cons, List.all_nil]
      refine ⟨Int.natCast_nonneg k, by omega, by omega, ?_⟩
      refine guardB.mk (fun h => ?_) (fun h => ?_) <;> simp only [h, nums, rowsS, nodes, zv, bv, sv, nv, bytesD, VL, VB, BEq.rfl, V1, V2, V3, V4, V5, V6, V7, V8, V9, V10, V11, V12, V13, V14, VE, Nat.reduceBEq, Nat.reduceAdd, Nat.reduceSub, Nat.reduceMul, Nat.reduceLeDiff, Nat.reduceLT, Nat.reduceEqDiff, Int.reduceBEq, Int.reduceBNe, Int.reduceLT, Int.reduceLE, Int.reduceAdd, Int.reduceSub, Int.reduceMul, kAgg, scD, List.all_cons, List.all_nil]
      · have h0 : 0 ≤ x := by simpa using h
        have hw : IntKind.i64.wrap (x + (by_ : Int)) = plusI x by_ := by rw [plusI, if_neg (by omega), wrap_in (by omega) (by omega)]
        simp only [hrr, hget, hrl3, hrl2, num_def, List.length_map, hw, drop1_num, hset, hset2, wrap_nat (k := k) (by omega), nums, rowsS, nodes, zv, bv, sv, nv, bytesD, VL, VB, BEq.rfl, V1, V2, V3, V4, V5, V6, V7, V8, V9, V10, V11, V12, V13, V14, VE, Nat.reduceBEq, Nat.reduceAdd, Nat.reduceSub, Nat.reduceMul, Nat.reduceLeDiff, Nat.reduceLT, Nat.reduceEqDiff, Int.reduceBEq, Int.reduceBNe, Int.reduceLT, Int.reduceLE, Int.reduceAdd, Int.reduceSub, Int.reduceMul, kAgg, scD, List.all_cons, List.all_nil]
        refine ⟨Int.natCast_nonneg k, hk', hk', Int.natCast_nonneg k, hk', hk', k + 1, Enter.id ?_, by omega, by show n - (k + 1) < n - k; omega⟩
        simp only [nums, rowsS, nodes, zv, bv, sv, nv, bytesD, VL, VB, BEq.rfl, V1, V2, V3, V4, V5, V6, V7, V8, V9, V10, V11, V12, V13, V14, VE, Nat.reduceBEq, Nat.reduceAdd, Nat.reduceSub, Nat.reduceMul, Nat.reduceLeDiff, Nat.reduceLT, Nat.reduceEqDiff, Int.reduceBEq, Int.reduceBNe, Int.reduceLT, Int.reduceLE, Int.reduceAdd, Int.reduceSub, Int.reduceMul, kAgg, scD, List.all_cons, List.all_nil]
      · have h0 : x = -1 := by
          have : ¬ 0 ≤ x := by simpa using h
          omega
        have hmm : midM M by_ i (k + 1) = midM M by_ i k := by rw [midM, midM, hr, hrsame (by rw [h0]; rfl)]
        simp only [wrap_nat (k := k) (by omega), nums, rowsS, nodes, zv, bv, sv, nv, bytesD, VL, VB, BEq.rfl, V1, V2, V3, V4, V5, V6, V7, V8, V9, V10, V11, V12, V13, V14, VE, Nat.reduceBEq, Nat.reduceAdd, Nat.reduceSub, Nat.reduceMul, Nat.reduceLeDiff, Nat.reduceLT, Nat.reduceEqDiff, Int.reduceBEq, Int.reduceBNe, Int.reduceLT, Int.reduceLE, Int.reduceAdd, Int.reduceSub, Int.reduceMul, kAgg, scD, List.all_cons, List.all_nil]
        refine ⟨k + 1, Enter.id ?_, by omega, by show n - (k + 1) < n - k; omega⟩
        simp only [hmm, nums, rowsS, nodes, zv, bv, sv, nv, bytesD, VL, VB, BEq.rfl, V1, V2, V3, V4, V5, V6, V7, V8, V9, V10, V11, V12, V13, V14, VE, Nat.reduceBEq, Nat.reduceAdd, Nat.reduceSub, Nat.reduceMul, Nat.reduceLeDiff, Nat.reduceLT, Nat.reduceEqDiff, Int.reduceBEq, Int.reduceBNe, Int.reduceLT, Int.reduceLE, Int.reduceAdd, Int.reduceSub, Int.reduceMul, kAgg, scD, List.all_cons, List.all_nil]
    have hk' : k = n := by
      have : ¬ k < n := by simpa using h
      omega
    subst hk'
    clear h
    rw [hrl2] at hma
    simp only [wrap_nat (k := i) (by omega), nums, rowsS, nodes, zv, bv, sv, nv, bytesD, VL, VB, BEq.rfl, V1, V2, V3, V4, V5, V6, V7, V8, V9, V10, V11, V12, V13, V14, VE, Nat.reduceBEq, Nat.reduceAdd, Nat.reduceSub, Nat.reduceMul, Nat.reduceLeDiff, Nat.reduceLT, Nat.reduceEqDiff, Int.reduceBEq, Int.reduceBNe, Int.reduceLT, Int.reduceLE, Int.reduceAdd, Int.reduceSub, Int.reduceMul, kAgg, scD, List.all_cons, List.all_nil]
    refine ⟨i + 1, Enter.id ?_, by omega, by show M.length - (i + 1) < M.length - i; omega⟩
    simp only [hma, nums, rowsS, nodes, zv, bv, sv, nv, bytesD, VL, VB, BEq.rfl, V1, V2, V3, V4, V5, V6, V7, V8, V9, V10, V11, V12, V13, V14, VE, Nat.reduceBEq, Nat.reduceAdd, Nat.reduceSub, Nat.reduceMul, Nat.reduceLeDiff, Nat.reduceLT, Nat.reduceEqDiff, Int.reduceBEq, Int.reduceBNe, Int.reduceLT, Int.reduceLE, Int.reduceAdd, Int.reduceSub, Int.reduceMul, kAgg, scD, List.all_cons, List.all_nil]
  have hi' : i = n := by
    have : ¬ i < n := by simpa using h
    omega
  subst hi'
  clear h
  rw [hml] at hck' he1 he2 he3 he4 he5 he6
  simp only [rowsN_D, nums, rowsS, nodes, zv, bv, sv, nv, bytesD, VL, VB, BEq.rfl, V1, V2, V3, V4, V5, V6, V7, V8, V9, V10, V11, V12, V13, V14, VE, Nat.reduceBEq, Nat.reduceAdd, Nat.reduceSub, Nat.reduceMul, Nat.reduceLeDiff, Nat.reduceLT, Nat.reduceEqDiff, Int.reduceBEq, Int.reduceBNe, Int.reduceLT, Int.reduceLE, Int.reduceAdd, Int.reduceSub, Int.reduceMul, kAgg, scD, List.all_cons, List.all_nil]
  refine CallX.mk (Min_ok T (raiseM M by_ i) W hsm) rfl ?_
  simp only [rowsN_D, nums, rowsS, nodes, zv, bv, sv, nv, bytesD, VL, VB, BEq.rfl, V1, V2, V3, V4, V5, V6, V7, V8, V9, V10, V11, V12, V13, V14, VE, Nat.reduceBEq, Nat.reduceAdd, Nat.reduceSub, Nat.reduceMul, Nat.reduceLeDiff, Nat.reduceLT, Nat.reduceEqDiff, Int.reduceBEq, Int.reduceBNe, Int.reduceLT, Int.reduceLE, Int.reduceAdd, Int.reduceSub, Int.reduceMul, kAgg, scD, List.all_cons, List.all_nil]
  refine CallX.mkF (Best_okF T (raiseM M by_ i) W hsm) rfl (sc_res _ _) ?_
  simp only [rowsN_D, nums, rowsS, nodes, zv, bv, sv, nv, bytesD, VL, VB, BEq.rfl, V1, V2, V3, V4, V5, V6, V7, V8, V9, V10, V11, V12, V13, V14, VE, Nat.reduceBEq, Nat.reduceAdd, Nat.reduceSub, Nat.reduceMul, Nat.reduceLeDiff, Nat.reduceLT, Nat.reduceEqDiff, Int.reduceBEq, Int.reduceBNe, Int.reduceLT, Int.reduceLE, Int.reduceAdd, Int.reduceSub, Int.reduceMul, kAgg, scD, List.all_cons, List.all_nil]
  refine CallX.mk (Ways_ok T (raiseM M by_ i) W hsm) rfl ?_
  simp only [rowsN_D, nums, rowsS, nodes, zv, bv, sv, nv, bytesD, VL, VB, BEq.rfl, V1, V2, V3, V4, V5, V6, V7, V8, V9, V10, V11, V12, V13, V14, VE, Nat.reduceBEq, Nat.reduceAdd, Nat.reduceSub, Nat.reduceMul, Nat.reduceLeDiff, Nat.reduceLT, Nat.reduceEqDiff, Int.reduceBEq, Int.reduceBNe, Int.reduceLT, Int.reduceLE, Int.reduceAdd, Int.reduceSub, Int.reduceMul, kAgg, scD, List.all_cons, List.all_nil]
  refine CallX.mkF (Roots_okF T (raiseM M by_ i) W hsm) rfl (sc_res _ _) ?_
  simp only [he1, he3, he4, he5, he6, nums, rowsS, nodes, zv, bv, sv, nv, bytesD, VL, VB, BEq.rfl, V1, V2, V3, V4, V5, V6, V7, V8, V9, V10, V11, V12, V13, V14, VE, Nat.reduceBEq, Nat.reduceAdd, Nat.reduceSub, Nat.reduceMul, Nat.reduceLeDiff, Nat.reduceLT, Nat.reduceEqDiff, Int.reduceBEq, Int.reduceBNe, Int.reduceLT, Int.reduceLE, Int.reduceAdd, Int.reduceSub, Int.reduceMul, kAgg, scD, List.all_cons, List.all_nil]
  have hT1 := g.n0
  have hT2 := g.n63
  refine guardB.mk (fun h => ?_) (fun h => ?_) <;> simp only [h, nums, rowsS, nodes, zv, bv, sv, nv, bytesD, VL, VB, BEq.rfl, V1, V2, V3, V4, V5, V6, V7, V8, V9, V10, V11, V12, V13, V14, VE, Nat.reduceBEq, Nat.reduceAdd, Nat.reduceSub, Nat.reduceMul, Nat.reduceLeDiff, Nat.reduceLT, Nat.reduceEqDiff, Int.reduceBEq, Int.reduceBNe, Int.reduceLT, Int.reduceLE, Int.reduceAdd, Int.reduceSub, Int.reduceMul, kAgg, scD, List.all_cons, List.all_nil]
  · have h0 : e = 0 := by simpa using h
    have hm := he2 h0
    have hb := hmb h0
    obtain ⟨q, hq⟩ : ∃ q : Nat, T.length = q + 1 := ⟨T.length - 1, by omega⟩
    have w7 : IntKind.i64.wrap ((T.length : Int) - 1) = (q : Int) := by rw [wrap_in (by omega) (by omega)]; omega
    have hmul : 0 ≤ (by_ : Int) * (q : Int) ∧ (by_ : Int) * (q : Int) ≤ 1000000 * 62 := by
      refine ⟨Int.mul_nonneg (Int.natCast_nonneg _) (Int.natCast_nonneg _), ?_⟩
      exact Int.mul_le_mul (by omega) (by omega) (Int.natCast_nonneg _) (by omega)
    have w8 : IntKind.i64.wrap ((by_ : Int) * (q : Int)) = (by_ : Int) * (q : Int) := wrap_in (by omega) (by omega)
    have w9 : IntKind.i64.wrap (a + (by_ : Int) * (q : Int)) = a + (by_ : Int) * (q : Int) := wrap_in (by omega) (by omega)
    have hm' : minV T (raiseM M by_ i) W = a + (by_ : Int) * (q : Int) := by rw [hm, show (T.length : Int) - 1 = (q : Int) by omega]
    simp only [w7, w8, w9, hm', bne_self_eq_false, nums, rowsS, nodes, zv, bv, sv, nv, bytesD, VL, VB, BEq.rfl, V1, V2, V3, V4, V5, V6, V7, V8, V9, V10, V11, V12, V13, V14, VE, Nat.reduceBEq, Nat.reduceAdd, Nat.reduceSub, Nat.reduceMul, Nat.reduceLeDiff, Nat.reduceLT, Nat.reduceEqDiff, Int.reduceBEq, Int.reduceBNe, Int.reduceLT, Int.reduceLE, Int.reduceAdd, Int.reduceSub, Int.reduceMul, kAgg, scD, List.all_cons, List.all_nil]
    try simp only [int_beq, decide_true, nums, rowsS, nodes, zv, bv, sv, nv, bytesD, VL, VB, BEq.rfl, V1, V2, V3, V4, V5, V6, V7, V8, V9, V10, V11, V12, V13, V14, VE, Nat.reduceBEq, Nat.reduceAdd, Nat.reduceSub, Nat.reduceMul, Nat.reduceLeDiff, Nat.reduceLT, Nat.reduceEqDiff, Int.reduceBEq, Int.reduceBNe, Int.reduceLT, Int.reduceLE, Int.reduceAdd, Int.reduceSub, Int.reduceMul, kAgg, scD, List.all_cons, List.all_nil]
    refine CallX.mk (equal_ok _ _) rfl ?_
    simp only [int_beq, decide_true, nums, rowsS, nodes, zv, bv, sv, nv, bytesD, VL, VB, BEq.rfl, V1, V2, V3, V4, V5, V6, V7, V8, V9, V10, V11, V12, V13, V14, VE, Nat.reduceBEq, Nat.reduceAdd, Nat.reduceSub, Nat.reduceMul, Nat.reduceLeDiff, Nat.reduceLT, Nat.reduceEqDiff, Int.reduceBEq, Int.reduceBNe, Int.reduceLT, Int.reduceLE, Int.reduceAdd, Int.reduceSub, Int.reduceMul, kAgg, scD, List.all_cons, List.all_nil]
    refine CallX.mk (equal_ok _ _) rfl ?_
    simp only [int_beq, decide_true, nums, rowsS, nodes, zv, bv, sv, nv, bytesD, VL, VB, BEq.rfl, V1, V2, V3, V4, V5, V6, V7, V8, V9, V10, V11, V12, V13, V14, VE, Nat.reduceBEq, Nat.reduceAdd, Nat.reduceSub, Nat.reduceMul, Nat.reduceLeDiff, Nat.reduceLT, Nat.reduceEqDiff, Int.reduceBEq, Int.reduceBNe, Int.reduceLT, Int.reduceLE, Int.reduceAdd, Int.reduceSub, Int.reduceMul, kAgg, scD, List.all_cons, List.all_nil]
    refine CallX.mk works_ok rfl ?_
    simp only [nums, rowsS, nodes, zv, bv, sv, nv, bytesD, VL, VB, BEq.rfl, V1, V2, V3, V4, V5, V6, V7, V8, V9, V10, V11, V12, V13, V14, VE, Nat.reduceBEq, Nat.reduceAdd, Nat.reduceSub, Nat.reduceMul, Nat.reduceLeDiff, Nat.reduceLT, Nat.reduceEqDiff, Int.reduceBEq, Int.reduceBNe, Int.reduceLT, Int.reduceLE, Int.reduceAdd, Int.reduceSub, Int.reduceMul, kAgg, scD, List.all_cons, List.all_nil]
  · skip
    try simp only [int_beq, decide_true, nums, rowsS, nodes, zv, bv, sv, nv, bytesD, VL, VB, BEq.rfl, V1, V2, V3, V4, V5, V6, V7, V8, V9, V10, V11, V12, V13, V14, VE, Nat.reduceBEq, Nat.reduceAdd, Nat.reduceSub, Nat.reduceMul, Nat.reduceLeDiff, Nat.reduceLT, Nat.reduceEqDiff, Int.reduceBEq, Int.reduceBNe, Int.reduceLT, Int.reduceLE, Int.reduceAdd, Int.reduceSub, Int.reduceMul, kAgg, scD, List.all_cons, List.all_nil]
    refine CallX.mk (equal_ok _ _) rfl ?_
    simp only [int_beq, decide_true, nums, rowsS, nodes, zv, bv, sv, nv, bytesD, VL, VB, BEq.rfl, V1, V2, V3, V4, V5, V6, V7, V8, V9, V10, V11, V12, V13, V14, VE, Nat.reduceBEq, Nat.reduceAdd, Nat.reduceSub, Nat.reduceMul, Nat.reduceLeDiff, Nat.reduceLT, Nat.reduceEqDiff, Int.reduceBEq, Int.reduceBNe, Int.reduceLT, Int.reduceLE, Int.reduceAdd, Int.reduceSub, Int.reduceMul, kAgg, scD, List.all_cons, List.all_nil]
    refine CallX.mk (equal_ok _ _) rfl ?_
    simp only [int_beq, decide_true, nums, rowsS, nodes, zv, bv, sv, nv, bytesD, VL, VB, BEq.rfl, V1, V2, V3, V4, V5, V6, V7, V8, V9, V10, V11, V12, V13, V14, VE, Nat.reduceBEq, Nat.reduceAdd, Nat.reduceSub, Nat.reduceMul, Nat.reduceLeDiff, Nat.reduceLT, Nat.reduceEqDiff, Int.reduceBEq, Int.reduceBNe, Int.reduceLT, Int.reduceLE, Int.reduceAdd, Int.reduceSub, Int.reduceMul, kAgg, scD, List.all_cons, List.all_nil]
    refine CallX.mk works_ok rfl ?_
    simp only [nums, rowsS, nodes, zv, bv, sv, nv, bytesD, VL, VB, BEq.rfl, V1, V2, V3, V4, V5, V6, V7, V8, V9, V10, V11, V12, V13, V14, VE, Nat.reduceBEq, Nat.reduceAdd, Nat.reduceSub, Nat.reduceMul, Nat.reduceLeDiff, Nat.reduceLT, Nat.reduceEqDiff, Int.reduceBEq, Int.reduceBNe, Int.reduceLT, Int.reduceLE, Int.reduceAdd, Int.reduceSub, Int.reduceMul, kAgg, scD, List.all_cons, List.all_nil]

end Go.Cp
namespace Go.Proofs.Ytfalggfambgkeaa
open Go Go.Proofs Go.RowKit Go.ChangeShapes Go.WideShapes Go.ChangeAt Go.Vx Go.Cp

theorem sankoffMore_lifted (os : Os) (started : os.Started) (H : Type) (enc : TypeId × Value → H) :
    ReturnsInHanded {} Try.checked os 5 .any (Rows.sankoffMoreSpec.pre6 enc Try.prog Try.f5 Rows.sankoffMoreRow.domain false) (Rows.sankoffMoreSpec.post enc Try.prog Try.f5 false true false false) := by
  refine law_lifted (m := 8) (tb := 4) os started H enc own laid (by kernel_rfl) Try.func5 rfl Try.underlying4 rfl ?_ (by kernel_rfl) (by kernel_rfl)
    (ChangeSpec.witness6 (enc := enc) (C := Try.checked) false ⟨#[], #[.slice none 0 0, .slice none 0 0, .slice none 0 0, .int .u8 0, .int .u32 0], []⟩ 8 (by kernel_rfl) (by kernel_rfl) (by kernel_rfl) (by kernel_rfl)) ?_
  · rw [Try.params5]
    intro ds hd
    match ds, hd with
    | [d1, d2, d3, d4, d5], _ => exact ⟨rfl, rfl, rfl⟩
  · rw [Try.params5]
    intro dss h
    obtain ⟨x1, x2, x3, x4, x5, rfl, h1, h2, h3, h4, h5⟩ := typedL5 h
    obtain ⟨ps, rfl, hp, hpl⟩ := typed_bytes (m := 6) h1
    obtain ⟨cs, rfl, hcs, _⟩ := typed_bytes (m := 6) h2
    obtain ⟨ss, rfl, hss, _⟩ := typed_bytes (m := 6) h3
    obtain ⟨c, rfl, hc⟩ := typed_byte (m := 7) h4
    obtain ⟨mr, rfl, hmr⟩ := typed_u32 (m := 7) h5
    simp only [argsAV, argAV, Try.underlying22, Try.underlying44, Try.underlying5]
    exact more_law ps cs ss c mr hp hpl hcs hss hc hmr

theorem sankoffMore_holds : Rows.SankoffMoreSaid :=
  OpenClaim.holds_of_wide 5 Try.f5 rfl rfl rfl rfl rfl rfl rfl ⟨rfl, rfl, rfl, rfl, rfl⟩ rfl rfl rfl rfl rfl (by kernel_rfl) Try.func5 (by kernel_rfl)
    (of_decide_eq_true (by kernel_rfl)) (by unfold Func.isWrapper; first | (rw [if_pos (by decide +kernel)]; kernel_rfl) | (rw [if_neg (by decide +kernel)]; exact ⟨rfl, rfl⟩))
    (fun os started H enc _ => sankoffMore_lifted os started H enc)
#print axioms sankoffMore_holds

end Go.Proofs.Ytfalggfambgkeaa
