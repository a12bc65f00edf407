/-
  Sankoff: the trees, costs and states that the laws draw: grown, known, square. Conditions: none.
  Sankoff: the problems that the laws draw are good; what follows from no assignment being cheaper. Plain. Conditions: none.
  Sankoff: the cost of an assignment that agrees with the leaves; assignments that the laws make. Plain. Conditions: none.
-/
import Derived.Test.YtfalggfambgkeaaMH
import Derived.Test.YtfalggfambgkeaaMK

section
set_option linter.unusedVariables false
set_option linter.unusedSimpArgs false
set_option maxHeartbeats 4000000
set_option maxRecDepth 10000
namespace Go.Cp
open Go Go.Proofs Go.Vx

def u8E (n : Nat) : List D := [.sc (.int .u8 n)]
abbrev bytesD (l : List Nat) : D := .sl (l.map u8E)
def boolE (b : Bool) : List D := [.sc (.bool b)]
theorem u8E_def (n : Nat) : u8E n = [.sc (.int .u8 n)] := rfl
theorem boolE_def (b : Bool) : boolE b = [.sc (.bool b)] := rfl
theorem getD_u8 (xs : List Nat) (k : Nat) (h : k < xs.length) : (xs.map u8E).getD k [] = u8E (xs.getD k 0) := by
  simp [List.getD, List.getElem?_map, List.getElem?_eq_getElem h]
theorem getD_boolE (xs : List Bool) (k : Nat) (h : k < xs.length) : (xs.map boolE).getD k [] = boolE (xs.getD k false) := by
  simp [List.getD, List.getElem?_map, List.getElem?_eq_getElem h]
theorem wrap8 {n : Int} (h : 0 ≤ n) (h' : n < 256) : IntKind.u8.wrap n = n := by
  rw [IntKind.wrap_u8]; omega
theorem tdivN (a b : Nat) : Int.tdiv (a : Int) (b : Int) = ((a / b : Nat) : Int) := rfl
theorem tmodN (a b : Nat) : Int.tmod (a : Int) (b : Int) = ((a % b : Nat) : Int) := rfl

def upOf (ps : List Nat) (i : Nat) : Nat := ps.getD i 0 % (i + 1)
def nameOf (i : Nat) : ByteArray := strOf [110, ((97 + i / 26 : Nat) : Int), ((97 + i % 26 : Nat) : Int)]
def name0 : ByteArray := ⟨#[110, 48]⟩
def grownTo (ps : List Nat) (k : Nat) : List Node := ⟨-1, name0⟩ :: (List.range k).map fun i => ⟨(upOf ps i : Nat), nameOf i⟩
def innerTo (ps : List Nat) (most k : Nat) : List Bool := (List.range (most + 1)).map fun v => (List.range k).any fun i => upOf ps i == v
theorem grownTo_len (ps : List Nat) (k : Nat) : (grownTo ps k).length = k + 1 := by simp [grownTo]
theorem grownTo_succ (ps : List Nat) (k : Nat) : grownTo ps (k + 1) = grownTo ps k ++ [⟨(upOf ps k : Nat), nameOf k⟩] := by
  simp [grownTo, List.range_succ]
theorem innerTo_len (ps : List Nat) (most k : Nat) : (innerTo ps most k).length = most + 1 := by simp [innerTo]
theorem innerTo_succ {ps : List Nat} {most k : Nat} : innerTo ps most (k + 1) = (innerTo ps most k).set (upOf ps k) true := by
  refine List.ext_getElem (by simp [innerTo]) fun i h1 h2 => ?_
  simp only [innerTo, List.getElem_set, List.getElem_map, List.getElem_range]
  rw [List.range_succ (n := k), List.any_append]
  by_cases h : upOf ps k = i
  · rw [if_pos h]; simp [h]
  · rw [if_neg h]; simp [h]
theorem innerTo_zero (ps : List Nat) (most : Nat) : innerTo ps most 0 = List.replicate (most + 1) false := by
  refine List.ext_getElem (by simp [innerTo]) fun i h1 h2 => ?_
  simp [innerTo]
theorem innerTo_at {ps : List Nat} {most k v : Nat} (h : v ≤ most) : (innerTo ps most k).getD v false = (List.range k).any fun i => upOf ps i == v := by
  simp [innerTo, List.getD, show v < most + 1 by omega]
theorem upOf_lt (ps : List Nat) (i : Nat) : upOf ps i < i + 1 := Nat.mod_lt _ (by omega)
theorem grown_at {ps : List Nat} {k v : Nat} (h : v < k) : (grownTo ps k).getD (v + 1) Node.zero = ⟨(upOf ps v : Nat), nameOf v⟩ := by
  simp [grownTo, List.getD, h]
theorem grown_par {ps : List Nat} {k v : Nat} (h : v < k) : parOf (grownTo ps k) (v + 1) = (upOf ps v : Nat) := by rw [parOf, grown_at h]
theorem grown_root (ps : List Nat) (k : Nat) : parOf (grownTo ps k) 0 = -1 := rfl
theorem kids_nil {t : List Node} {v : Nat} : kids t v = [] ↔ ∀ u, u < t.length → parOf t u ≠ (v : Int) := by
  simp [kids, kidsTo, List.filter_eq_nil_iff]
theorem grown_leaf {ps : List Nat} {most k v : Nat} (h : v ≤ most) : (innerTo ps most k).getD v false = false ↔ kids (grownTo ps k) v = [] := by
  rw [innerTo_at h, kids_nil, grownTo_len, List.any_eq_false]
  constructor
  · intro ha u hu
    match u with
    | 0 => rw [grown_root]; omega
    | u + 1 =>
      rw [grown_par (by omega)]
      have := ha u (by simp; omega)
      intro e
      exact this (by simpa using (by exact_mod_cast e : upOf ps u = v))
  · intro ha i hi
    have hi : i < k := by simpa using hi
    have := ha (i + 1) (by omega)
    rw [grown_par hi] at this
    intro e
    exact this (by exact_mod_cast (by simpa using e : upOf ps i = v))

theorem name_ok : ∀ i : Fin 62, namedB (nameOf i.1) = true := by decide +kernel
theorem name_ne : ∀ i j : Fin 62, i ≠ j → nameOf i.1 ≠ nameOf j.1 := by decide +kernel
theorem name_ne0 : ∀ i : Fin 62, name0 ≠ nameOf i.1 := by decide +kernel
theorem name_sz : ∀ i : Fin 62, (nameOf i.1).size ≤ 9223372036854775807 := by decide +kernel
theorem name0_ok : namedB name0 = true := by decide +kernel

theorem grown_okTree (ps : List Nat) {k : Nat} (hk : k ≤ 62) : okTree (grownTo ps k) = true := by
  rw [okTree, grownTo_len]
  simp only [Bool.and_eq_true, decide_eq_true_eq, List.all_eq_true]
  refine ⟨by omega, by omega, fun v hv => ?_⟩
  have hv : v < k + 1 := by simpa using hv
  match v with
  | 0 =>
    have e : (grownTo ps k).getD 0 Node.zero = ⟨-1, name0⟩ := rfl
    rw [okNode, okPar, fresh, if_pos rfl, e]
    simp [name0_ok]
  | v + 1 =>
    have e := grown_at (ps := ps) (show v < k by omega)
    have hu := upOf_lt ps v
    rw [okNode, okPar, fresh, if_neg (by omega), e]
    simp only [Bool.and_eq_true, decide_eq_true_eq, List.all_eq_true]
    refine ⟨⟨by omega, by omega⟩, name_ok ⟨v, by omega⟩, fun u hu => ?_⟩
    have hu : u < v + 1 := by simpa using hu
    match u with
    | 0 => exact name_ne0 ⟨v, by omega⟩
    | u + 1 =>
      rw [grown_at (show u < k by omega)]
      exact name_ne ⟨u, by omega⟩ ⟨v, by omega⟩ (by intro e; injection e; omega)
theorem grown_small (ps : List Nat) {k : Nat} (hk : k ≤ 62) : Small (grownTo ps k) := by
  intro v hv
  rw [grownTo_len] at hv
  match v with
  | 0 => show name0.size ≤ _; decide
  | v + 1 =>
    rw [grown_at (show v < k by omega)]
    exact name_sz ⟨v, by omega⟩

theorem grown_ok (ps : List Nat) (most : Nat) (hm : most ≤ 62) (hp : ∀ i, ps.getD i 0 < 256) (hlen : ps.length ≤ 9223372036854775807) :
    Ok Try.prog E 14 [.c (bytesD ps), nv most] (.tp [.c (nodes (grownTo ps (min ps.length most))), .c (nums (leavesOf (grownTo ps (min ps.length most))))]) := by
  refine ok_of_vc (L := []) (ts := [4, 5]) envOK mixed Try.func14 rfl (by kernel_rfl) rfl (by kernel_rfl) rfl fun hl => ?_
  simp only [Try.f14, nums, rowsS, nodes, zv, bv, sv, nv, VL, VB, BEq.rfl, V1, V2, V3, V4, V5, V6, V7, V8, V9, V10, V11, V12, V13, V14, VE, Nat.reduceBEq, Nat.reduceAdd, Nat.reduceSub, Nat.reduceMul, Nat.reduceLeDiff, Nat.reduceLT, Nat.reduceEqDiff, Int.reduceBEq, Int.reduceBNe, Int.reduceLT, Int.reduceLE, Int.reduceAdd, Int.reduceSub, Int.reduceMul, kAgg, scD, List.all_cons, List.all_nil]
  obtain ⟨K, hK⟩ : ∃ K, min ps.length most = K := ⟨_, rfl⟩
  have hKl : K ≤ ps.length ∧ K ≤ 62 ∧ K ≤ most := by omega
  have hmin : (cond (decide ((most : Int) < (ps.length : Int))) (most : Int) (ps.length : Int)) = (K : Int) := by
    rcases Nat.lt_or_ge most ps.length with h | h
    · rw [decide_eq_true (by omega), cond_true]; omega
    · rw [decide_eq_false (by omega), cond_false]; omega
  have hw1 : IntKind.i64.wrap ((most : Int) + 1) = ((most + 1 : Nat) : Int) := wrap_nat (by omega)
  have htl : (List.take K (ps.map u8E)).length = K := by simp; omega
  have hal : AllLen 1 (ps.map u8E) := by
    intro y hy
    obtain ⟨n, _, rfl⟩ := List.mem_map.1 hy
    rfl
  have hz : List.replicate (most + 1) [D.sc (.bool false)] = (innerTo ps most 0).map boolE := by rw [innerTo_zero, List.map_replicate]; rfl
  have hget : ∀ i, i < K → (List.take K (ps.map u8E)).getD i [] = u8E (ps.getD i 0) := fun i hi => by
    rw [← getD_u8 ps i (by omega)]
    simp [List.getD, hi]
  simp only [hK, hmin, hw1, htl, hz, nums, rowsS, nodes, zv, bv, sv, nv, VL, VB, BEq.rfl, V1, V2, V3, V4, V5, V6, V7, V8, V9, V10, V11, V12, V13, V14, VE, Nat.reduceBEq, Nat.reduceAdd, Nat.reduceSub, Nat.reduceMul, Nat.reduceLeDiff, Nat.reduceLT, Nat.reduceEqDiff, Int.reduceBEq, Int.reduceBNe, Int.reduceLT, Int.reduceLE, Int.reduceAdd, Int.reduceSub, Int.reduceMul, kAgg, scD, List.all_cons, List.all_nil]
  refine ⟨⟨Int.natCast_nonneg _, by omega⟩, ⟨⟨by omega, Int.natCast_nonneg K, by omega⟩, hal⟩, ?_⟩
  obtain ⟨P, hP⟩ : ∃ P, List.take K (ps.map u8E) = P := ⟨_, rfl⟩
  rw [hP] at htl
  simp only [hP] at hget ⊢
  refine LoopVC.mk (Y := Nat) (fun k => k ≤ K) (fun k => ⟨[(6, .osl 14 0), (7, .osl 17 0), (23, .c (.sl P)), (24, nv K), (25, nv k)], [(14, .arr 39 0 ((grownTo ps k).map Node.enc)), (17, .arr 4 0 ((innerTo ps most k).map boolE))]⟩) (fun k => K - k) ⟨0, Enter.id ?_, by omega⟩ ?_
  · have hg0 : [[D.sc (.int .i64 (-1)), D.sc (.string ⟨#[110, 48]⟩)]] = (grownTo ps 0).map Node.enc := by simp [grownTo, Node.enc, name0]
    simp only [hg0, nums, rowsS, nodes, zv, bv, sv, nv, VL, VB, BEq.rfl, V1, V2, V3, V4, V5, V6, V7, V8, V9, V10, V11, V12, V13, V14, VE, Nat.reduceBEq, Nat.reduceAdd, Nat.reduceSub, Nat.reduceMul, Nat.reduceLeDiff, Nat.reduceLT, Nat.reduceEqDiff, Int.reduceBEq, Int.reduceBNe, Int.reduceLT, Int.reduceLE, Int.reduceAdd, Int.reduceSub, Int.reduceMul, kAgg, scD, List.all_cons, List.all_nil]
    rfl
  intro k hk
  simp only [lt_nat, nums, rowsS, nodes, zv, bv, sv, nv, VL, VB, BEq.rfl, V1, V2, V3, V4, V5, V6, V7, V8, V9, V10, V11, V12, V13, V14, VE, Nat.reduceBEq, Nat.reduceAdd, Nat.reduceSub, Nat.reduceMul, Nat.reduceLeDiff, Nat.reduceLT, Nat.reduceEqDiff, Int.reduceBEq, Int.reduceBNe, Int.reduceLT, Int.reduceLE, Int.reduceAdd, Int.reduceSub, Int.reduceMul, kAgg, scD, List.all_cons, List.all_nil]
  refine guardB.mk (fun h => ?_) (fun h => ?_)
  · have hk' : k < K := by simpa using h
    clear h
    have hpk := hp k
    have hup : upOf ps k = ps.getD k 0 % (k + 1) := rfl
    have hul := upOf_lt ps k
    have hin := innerTo_succ (ps := ps) (most := most) (k := k)
    have hgr := grownTo_succ ps k
    have hgl := grownTo_len ps k
    have hil := innerTo_len ps most k
    have hgk := hget k hk'
    obtain ⟨q, hq⟩ : ∃ q, ps.getD k 0 = q := ⟨_, rfl⟩
    rw [hq] at hpk hup hgk
    obtain ⟨u, hu⟩ : ∃ u, upOf ps k = u := ⟨_, rfl⟩
    rw [hu] at hup hul hin hgr
    have hwq : IntKind.i64.wrap (q : Int) = (q : Int) := wrap_in (by omega) (by omega)
    have hmod : Int.tmod (q : Int) ((k + 1 : Nat) : Int) = (u : Int) := by rw [tmodN, hup]
    have hd26 : Int.tdiv (k : Int) 26 = ((k / 26 : Nat) : Int) := tdivN k 26
    have hm26 : Int.tmod (k : Int) 26 = ((k % 26 : Nat) : Int) := tmodN k 26
    have hwd0 : IntKind.i64.wrap ((k / 26 : Nat) : Int) = ((k / 26 : Nat) : Int) := wrap_in (by omega) (by omega)
    have hwd : IntKind.u8.wrap ((k / 26 : Nat) : Int) = ((k / 26 : Nat) : Int) := wrap8 (by omega) (by omega)
    have hwm : IntKind.u8.wrap ((k % 26 : Nat) : Int) = ((k % 26 : Nat) : Int) := wrap8 (by omega) (by omega)
    have hs1 : IntKind.u8.wrap (97 + ((k / 26 : Nat) : Int)) = ((97 + k / 26 : Nat) : Int) := by rw [wrap8 (by omega) (by omega)]; omega
    have hs2 : IntKind.u8.wrap (97 + ((k % 26 : Nat) : Int)) = ((97 + k % 26 : Nat) : Int) := by rw [wrap8 (by omega) (by omega)]; omega
    have hbe : ((innerTo ps most k).map boolE).set u [.sc (.bool true)] = (innerTo ps most (k + 1)).map boolE := by
      rw [hin, List.map_set]; rfl
    have hbl : (((innerTo ps most k).map boolE).getD u []).length = 1 := by rw [getD_boolE _ u (by omega)]; rfl
    have hbd : List.drop 1 (((innerTo ps most k).map boolE).getD u []) = [] := by rw [getD_boolE _ u (by omega)]; rfl
    have hnm : strOf [110, ((97 + k / 26 : Nat) : Int), ((97 + k % 26 : Nat) : Int)] = nameOf k := rfl
    simp only [hgk, u8E_def, hwq, wrap_nat (k := k) (by omega), hmod, hd26, hm26, hwd0, hwd, hwm, hs1, hs2, hbe, hbl, hbd, hnm, htl, hil, hgl, nums, rowsS, nodes, zv, bv, sv, nv, VL, VB, BEq.rfl, V1, V2, V3, V4, V5, V6, V7, V8, V9, V10, V11, V12, V13, V14, VE, Nat.reduceBEq, Nat.reduceAdd, Nat.reduceSub, Nat.reduceMul, Nat.reduceLeDiff, Nat.reduceLT, Nat.reduceEqDiff, Int.reduceBEq, Int.reduceBNe, Int.reduceLT, Int.reduceLE, Int.reduceAdd, Int.reduceSub, Int.reduceMul, kAgg, scD, List.all_cons, List.all_nil]
    refine ⟨⟨Int.natCast_nonneg k, hk'⟩, by omega, Int.natCast_nonneg u, by omega, by omega, by decide, by decide, ⟨by omega, allLen_node [⟨(u : Nat), nameOf k⟩]⟩, k + 1, Enter.id ?_, by omega, by show K - (k + 1) < K - k; omega⟩
    have hrow : (grownTo ps k).map Node.enc ++ [[.sc (.int .i64 (u : Nat)), .sc (.string (nameOf k))]] = (grownTo ps (k + 1)).map Node.enc := by
      rw [hgr, List.map_append]; rfl
    simp only [hrow, nums, rowsS, nodes, zv, bv, sv, nv, VL, VB, BEq.rfl, V1, V2, V3, V4, V5, V6, V7, V8, V9, V10, V11, V12, V13, V14, VE, Nat.reduceBEq, Nat.reduceAdd, Nat.reduceSub, Nat.reduceMul, Nat.reduceLeDiff, Nat.reduceLT, Nat.reduceEqDiff, Int.reduceBEq, Int.reduceBNe, Int.reduceLT, Int.reduceLE, Int.reduceAdd, Int.reduceSub, Int.reduceMul, kAgg, scD, List.all_cons, List.all_nil]
  · have hk' : k = K := by
      have : ¬ k < K := by simpa using h
      omega
    subst hk'
    clear h
    have hil := innerTo_len ps most k
    have hgl := grownTo_len ps k
    have hlf : ∀ v, v ≤ most → ((innerTo ps most k).getD v false = false ↔ kids (grownTo ps k) v = []) := fun v hv => grown_leaf hv
    have hlen := leaves_len (grownTo ps k)
    obtain ⟨T, hT⟩ : ∃ T, grownTo ps k = T := ⟨_, rfl⟩
    obtain ⟨I, hI⟩ : ∃ I, innerTo ps most k = I := ⟨_, rfl⟩
    rw [hT] at hgl hlen
    rw [hI] at hil
    simp only [hT, hI] at hlf ⊢
    simp only [nums, rowsS, nodes, zv, bv, sv, nv, VL, VB, BEq.rfl, V1, V2, V3, V4, V5, V6, V7, V8, V9, V10, V11, V12, V13, V14, VE, Nat.reduceBEq, Nat.reduceAdd, Nat.reduceSub, Nat.reduceMul, Nat.reduceLeDiff, Nat.reduceLT, Nat.reduceEqDiff, Int.reduceBEq, Int.reduceBNe, Int.reduceLT, Int.reduceLE, Int.reduceAdd, Int.reduceSub, Int.reduceMul, kAgg, scD, List.all_cons, List.all_nil]
    refine LoopVC.mk (Y := Nat) (fun v => v ≤ T.length) (fun v => ⟨[(6, .osl 14 0), (7, .osl 17 0), (11, .osl 1000 0), (55, nv T.length), (56, nv v)], [(14, .arr 39 0 (T.map Node.enc)), (17, .arr 4 0 (I.map boolE)), (1000, .arr 3 0 ((leavesTo T v).map num))]⟩) (fun v => T.length - v) ⟨0, Enter.mk [(11, (1000, 3))] [] [] ?_, by omega⟩ ?_
    · simp only [nums, rowsS, nodes, zv, bv, sv, nv, VL, VB, BEq.rfl, V1, V2, V3, V4, V5, V6, V7, V8, V9, V10, V11, V12, V13, V14, VE, Nat.reduceBEq, Nat.reduceAdd, Nat.reduceSub, Nat.reduceMul, Nat.reduceLeDiff, Nat.reduceLT, Nat.reduceEqDiff, Int.reduceBEq, Int.reduceBNe, Int.reduceLT, Int.reduceLE, Int.reduceAdd, Int.reduceSub, Int.reduceMul, kAgg, scD, List.all_cons, List.all_nil]
      exact ⟨rfl, ⟨rfl, rfl⟩, rfl⟩
    intro v hv
    simp only [lt_nat, nums, rowsS, nodes, zv, bv, sv, nv, VL, VB, BEq.rfl, V1, V2, V3, V4, V5, V6, V7, V8, V9, V10, V11, V12, V13, V14, VE, Nat.reduceBEq, Nat.reduceAdd, Nat.reduceSub, Nat.reduceMul, Nat.reduceLeDiff, Nat.reduceLT, Nat.reduceEqDiff, Int.reduceBEq, Int.reduceBNe, Int.reduceLT, Int.reduceLE, Int.reduceAdd, Int.reduceSub, Int.reduceMul, kAgg, scD, List.all_cons, List.all_nil]
    refine guardB.mk (fun h => ?_) (fun h => ?_)
    · have hv' : v < T.length := by simpa using h
      clear h
      have hlt := leavesTo_len T v
      have hnum := leavesTo_nums T v
      have hlfv := hlf v (by omega)
      obtain ⟨b, hb⟩ : ∃ b, I.getD v false = b := ⟨_, rfl⟩
      rw [hb] at hlfv
      simp only [getD_boolE I v (by omega), hb, boolE_def, hil, nums, rowsS, nodes, zv, bv, sv, nv, VL, VB, BEq.rfl, V1, V2, V3, V4, V5, V6, V7, V8, V9, V10, V11, V12, V13, V14, VE, Nat.reduceBEq, Nat.reduceAdd, Nat.reduceSub, Nat.reduceMul, Nat.reduceLeDiff, Nat.reduceLT, Nat.reduceEqDiff, Int.reduceBEq, Int.reduceBNe, Int.reduceLT, Int.reduceLE, Int.reduceAdd, Int.reduceSub, Int.reduceMul, kAgg, scD, List.all_cons, List.all_nil]
      refine ⟨Int.natCast_nonneg v, by omega, by omega, ?_⟩
      cases b with
      | false =>
        rw [if_pos (hlfv.1 rfl)] at hnum
        simp only [wrap_nat (k := v) (by omega), nums, rowsS, nodes, zv, bv, sv, nv, VL, VB, BEq.rfl, V1, V2, V3, V4, V5, V6, V7, V8, V9, V10, V11, V12, V13, V14, VE, Nat.reduceBEq, Nat.reduceAdd, Nat.reduceSub, Nat.reduceMul, Nat.reduceLeDiff, Nat.reduceLT, Nat.reduceEqDiff, Int.reduceBEq, Int.reduceBNe, Int.reduceLT, Int.reduceLE, Int.reduceAdd, Int.reduceSub, Int.reduceMul, kAgg, scD, List.all_cons, List.all_nil]
        refine ⟨⟨by omega, allLen_num [(v : Int)]⟩, v + 1, Enter.id ?_, by omega, by show T.length - (v + 1) < T.length - v; omega⟩
        simp only [hnum, num_def, nums, rowsS, nodes, zv, bv, sv, nv, VL, VB, BEq.rfl, V1, V2, V3, V4, V5, V6, V7, V8, V9, V10, V11, V12, V13, V14, VE, Nat.reduceBEq, Nat.reduceAdd, Nat.reduceSub, Nat.reduceMul, Nat.reduceLeDiff, Nat.reduceLT, Nat.reduceEqDiff, Int.reduceBEq, Int.reduceBNe, Int.reduceLT, Int.reduceLE, Int.reduceAdd, Int.reduceSub, Int.reduceMul, kAgg, scD, List.all_cons, List.all_nil]
      | true =>
        rw [if_neg (fun e => by have := hlfv.2 e; cases this)] at hnum
        simp only [wrap_nat (k := v) (by omega), nums, rowsS, nodes, zv, bv, sv, nv, VL, VB, BEq.rfl, V1, V2, V3, V4, V5, V6, V7, V8, V9, V10, V11, V12, V13, V14, VE, Nat.reduceBEq, Nat.reduceAdd, Nat.reduceSub, Nat.reduceMul, Nat.reduceLeDiff, Nat.reduceLT, Nat.reduceEqDiff, Int.reduceBEq, Int.reduceBNe, Int.reduceLT, Int.reduceLE, Int.reduceAdd, Int.reduceSub, Int.reduceMul, kAgg, scD, List.all_cons, List.all_nil]
        refine ⟨v + 1, Enter.id ?_, by omega, by show T.length - (v + 1) < T.length - v; omega⟩
        simp only [hnum, nums, rowsS, nodes, zv, bv, sv, nv, VL, VB, BEq.rfl, V1, V2, V3, V4, V5, V6, V7, V8, V9, V10, V11, V12, V13, V14, VE, Nat.reduceBEq, Nat.reduceAdd, Nat.reduceSub, Nat.reduceMul, Nat.reduceLeDiff, Nat.reduceLT, Nat.reduceEqDiff, Int.reduceBEq, Int.reduceBNe, Int.reduceLT, Int.reduceLE, Int.reduceAdd, Int.reduceSub, Int.reduceMul, kAgg, scD, List.all_cons, List.all_nil]
    · have hv' : v = T.length := by
        have : ¬ v < T.length := by simpa using h
        omega
      subst hv'
      simp only [nums, rowsS, nodes, zv, bv, sv, nv, VL, VB, BEq.rfl, V1, V2, V3, V4, V5, V6, V7, V8, V9, V10, V11, V12, V13, V14, VE, Nat.reduceBEq, Nat.reduceAdd, Nat.reduceSub, Nat.reduceMul, Nat.reduceLeDiff, Nat.reduceLT, Nat.reduceEqDiff, Int.reduceBEq, Int.reduceBNe, Int.reduceLT, Int.reduceLE, Int.reduceAdd, Int.reduceSub, Int.reduceMul, kAgg, scD, List.all_cons, List.all_nil]

/-! states of leaves -/
def knownN (n : Nat) (l : List Nat) (k : Nat) : Int := if l = [] then ((k % n : Nat) : Int) else ((l.getD (k % l.length) 0 % (n + 1) : Nat) : Int) - 1
def knownL (n : Nat) (l : List Nat) (k : Nat) : List Int := (List.range k).map (knownN n l)
theorem knownL_succ (n : Nat) (l : List Nat) (k : Nat) : knownL n l (k + 1) = knownL n l k ++ [knownN n l k] := by simp [knownL, List.range_succ]
theorem knownL_len (n : Nat) (l : List Nat) (k : Nat) : (knownL n l k).length = k := by simp [knownL]
theorem known_ok (leaves : List Int) (n : Nat) (l : List Nat) (hn : 0 < n) (hn2 : n ≤ 12) (hlv : leaves.length ≤ 63) (hl : ∀ i, l.getD i 0 < 256) : Ok Try.prog E 15 [.c (nums leaves), nv n, .c (bytesD l)] (.fr 3 ((knownL n l leaves.length).map num)) := by
  refine ok_of_vc (L := []) (ts := [6]) envOK mixed Try.func15 rfl (by kernel_rfl) rfl (by kernel_rfl) rfl fun hl => ?_
  simp only [Try.f15, nums, rowsS, nodes, zv, bv, sv, nv, VL, VB, BEq.rfl, V1, V2, V3, V4, V5, V6, V7, V8, V9, V10, V11, V12, V13, V14, VE, Nat.reduceBEq, Nat.reduceAdd, Nat.reduceSub, Nat.reduceMul, Nat.reduceLeDiff, Nat.reduceLT, Nat.reduceEqDiff, Int.reduceBEq, Int.reduceBNe, Int.reduceLT, Int.reduceLE, Int.reduceAdd, Int.reduceSub, Int.reduceMul, kAgg, scD, List.all_cons, List.all_nil]
  refine LoopVC.mk (Y := Nat) (fun k => k ≤ leaves.length) (fun k => ⟨[(1, nv n), (2, .c (bytesD l)), (7, .osl 1000 0), (11, nv leaves.length), (12, nv k)], [(1000, .arr 3 0 ((knownL n l k).map num))]⟩) (fun k => leaves.length - k) ⟨0, Enter.mk [(7, (1000, 3))] [] [] ?_, by omega⟩ ?_
  · simp only [nums, rowsS, nodes, zv, bv, sv, nv, VL, VB, BEq.rfl, V1, V2, V3, V4, V5, V6, V7, V8, V9, V10, V11, V12, V13, V14, VE, Nat.reduceBEq, Nat.reduceAdd, Nat.reduceSub, Nat.reduceMul, Nat.reduceLeDiff, Nat.reduceLT, Nat.reduceEqDiff, Int.reduceBEq, Int.reduceBNe, Int.reduceLT, Int.reduceLE, Int.reduceAdd, Int.reduceSub, Int.reduceMul, kAgg, scD, List.all_cons, List.all_nil]
    exact ⟨rfl, ⟨rfl, rfl⟩, rfl⟩
  intro k hk
  simp only [lt_nat, nums, rowsS, nodes, zv, bv, sv, nv, VL, VB, BEq.rfl, V1, V2, V3, V4, V5, V6, V7, V8, V9, V10, V11, V12, V13, V14, VE, Nat.reduceBEq, Nat.reduceAdd, Nat.reduceSub, Nat.reduceMul, Nat.reduceLeDiff, Nat.reduceLT, Nat.reduceEqDiff, Int.reduceBEq, Int.reduceBNe, Int.reduceLT, Int.reduceLE, Int.reduceAdd, Int.reduceSub, Int.reduceMul, kAgg, scD, List.all_cons, List.all_nil]
  refine guardB.mk (fun h => ?_) (fun h => ?_)
  · have hk' : k < leaves.length := by simpa using h
    clear h
    have hkl := knownL_len n l k
    have hks := knownL_succ n l k
    have hkn : knownN n l k = if l = [] then ((k % n : Nat) : Int) else ((l.getD (k % l.length) 0 % (n + 1) : Nat) : Int) - 1 := rfl
    have hm1 : Int.tmod (k : Int) (n : Int) = ((k % n : Nat) : Int) := tmodN k n
    have hm2 : Int.tmod (k : Int) (l.length : Int) = ((k % l.length : Nat) : Int) := tmodN k l.length
    have hg : decide ((0 : Int) < (l.length : Int)) = decide (l ≠ []) := by
      congr 1
      exact propext ⟨fun h e => by rw [e] at h; simp at h, fun h => by have := List.length_pos_iff.2 h; omega⟩
    simp only [hm1, hg, nums, rowsS, nodes, zv, bv, sv, nv, VL, VB, BEq.rfl, V1, V2, V3, V4, V5, V6, V7, V8, V9, V10, V11, V12, V13, V14, VE, Nat.reduceBEq, Nat.reduceAdd, Nat.reduceSub, Nat.reduceMul, Nat.reduceLeDiff, Nat.reduceLT, Nat.reduceEqDiff, Int.reduceBEq, Int.reduceBNe, Int.reduceLT, Int.reduceLE, Int.reduceAdd, Int.reduceSub, Int.reduceMul, kAgg, scD, List.all_cons, List.all_nil]
    refine ⟨by omega, ?_⟩
    refine guardB.mk (fun h => ?_) (fun h => ?_) <;> simp only [h, nums, rowsS, nodes, zv, bv, sv, nv, VL, VB, BEq.rfl, V1, V2, V3, V4, V5, V6, V7, V8, V9, V10, V11, V12, V13, V14, VE, Nat.reduceBEq, Nat.reduceAdd, Nat.reduceSub, Nat.reduceMul, Nat.reduceLeDiff, Nat.reduceLT, Nat.reduceEqDiff, Int.reduceBEq, Int.reduceBNe, Int.reduceLT, Int.reduceLE, Int.reduceAdd, Int.reduceSub, Int.reduceMul, kAgg, scD, List.all_cons, List.all_nil]
    · have h : l ≠ [] := by simpa using h
      have hpos := List.length_pos_iff.2 h
      have hlt : k % l.length < l.length := Nat.mod_lt _ hpos
      rw [if_neg h] at hkn
      obtain ⟨j, hj⟩ : ∃ j, k % l.length = j := ⟨_, rfl⟩
      rw [hj] at hm2 hlt hkn
      have hq256 : l.getD j 0 < 256 := by have := (by assumption : ∀ i, l.getD i 0 < 256) j; exact this
      have hgj := getD_u8 l j hlt
      obtain ⟨q, hq⟩ : ∃ q, l.getD j 0 = q := ⟨_, rfl⟩
      rw [hq] at hq256 hgj hkn
      have hwq : IntKind.i64.wrap (q : Int) = (q : Int) := wrap_in (by omega) (by omega)
      have hm3 : Int.tmod (q : Int) ((n + 1 : Nat) : Int) = ((q % (n + 1) : Nat) : Int) := tmodN q (n + 1)
      have hlt2 : q % (n + 1) < n + 1 := Nat.mod_lt _ (by omega)
      have hw3 : IntKind.i64.wrap (knownN n l k) = knownN n l k := wrap_in (by omega) (by omega)
      simp only [hm2, hgj, u8E_def, hwq, wrap_nat (k := n) (by omega), hm3, ← hkn, hw3, hkl, nums, rowsS, nodes, zv, bv, sv, nv, VL, VB, BEq.rfl, V1, V2, V3, V4, V5, V6, V7, V8, V9, V10, V11, V12, V13, V14, VE, Nat.reduceBEq, Nat.reduceAdd, Nat.reduceSub, Nat.reduceMul, Nat.reduceLeDiff, Nat.reduceLT, Nat.reduceEqDiff, Int.reduceBEq, Int.reduceBNe, Int.reduceLT, Int.reduceLE, Int.reduceAdd, Int.reduceSub, Int.reduceMul, kAgg, scD, List.all_cons, List.all_nil]
      refine ⟨by omega, ⟨Int.natCast_nonneg j, hlt⟩, by omega, ⟨by omega, allLen_num [knownN n l k]⟩, ?_⟩
      simp only [wrap_nat (k := k) (by omega), nums, rowsS, nodes, zv, bv, sv, nv, VL, VB, BEq.rfl, V1, V2, V3, V4, V5, V6, V7, V8, V9, V10, V11, V12, V13, V14, VE, Nat.reduceBEq, Nat.reduceAdd, Nat.reduceSub, Nat.reduceMul, Nat.reduceLeDiff, Nat.reduceLT, Nat.reduceEqDiff, Int.reduceBEq, Int.reduceBNe, Int.reduceLT, Int.reduceLE, Int.reduceAdd, Int.reduceSub, Int.reduceMul, kAgg, scD, List.all_cons, List.all_nil]
      refine ⟨k + 1, Enter.id ?_, by omega, by show leaves.length - (k + 1) < leaves.length - k; omega⟩
      simp only [hks, List.map_append, num_def, nums, rowsS, nodes, zv, bv, sv, nv, VL, VB, BEq.rfl, V1, V2, V3, V4, V5, V6, V7, V8, V9, V10, V11, V12, V13, V14, VE, Nat.reduceBEq, Nat.reduceAdd, Nat.reduceSub, Nat.reduceMul, Nat.reduceLeDiff, Nat.reduceLT, Nat.reduceEqDiff, Int.reduceBEq, Int.reduceBNe, Int.reduceLT, Int.reduceLE, Int.reduceAdd, Int.reduceSub, Int.reduceMul, kAgg, scD, List.all_cons, List.all_nil]
    · have h : l = [] := by simpa using h
      rw [if_pos h] at hkn
      simp only [hkl, ← hkn, nums, rowsS, nodes, zv, bv, sv, nv, VL, VB, BEq.rfl, V1, V2, V3, V4, V5, V6, V7, V8, V9, V10, V11, V12, V13, V14, VE, Nat.reduceBEq, Nat.reduceAdd, Nat.reduceSub, Nat.reduceMul, Nat.reduceLeDiff, Nat.reduceLT, Nat.reduceEqDiff, Int.reduceBEq, Int.reduceBNe, Int.reduceLT, Int.reduceLE, Int.reduceAdd, Int.reduceSub, Int.reduceMul, kAgg, scD, List.all_cons, List.all_nil]
      refine ⟨⟨by omega, allLen_num [knownN n l k]⟩, ?_⟩
      simp only [wrap_nat (k := k) (by omega), nums, rowsS, nodes, zv, bv, sv, nv, VL, VB, BEq.rfl, V1, V2, V3, V4, V5, V6, V7, V8, V9, V10, V11, V12, V13, V14, VE, Nat.reduceBEq, Nat.reduceAdd, Nat.reduceSub, Nat.reduceMul, Nat.reduceLeDiff, Nat.reduceLT, Nat.reduceEqDiff, Int.reduceBEq, Int.reduceBNe, Int.reduceLT, Int.reduceLE, Int.reduceAdd, Int.reduceSub, Int.reduceMul, kAgg, scD, List.all_cons, List.all_nil]
      refine ⟨k + 1, Enter.id ?_, by omega, by show leaves.length - (k + 1) < leaves.length - k; omega⟩
      simp only [hks, List.map_append, num_def, nums, rowsS, nodes, zv, bv, sv, nv, VL, VB, BEq.rfl, V1, V2, V3, V4, V5, V6, V7, V8, V9, V10, V11, V12, V13, V14, VE, Nat.reduceBEq, Nat.reduceAdd, Nat.reduceSub, Nat.reduceMul, Nat.reduceLeDiff, Nat.reduceLT, Nat.reduceEqDiff, Int.reduceBEq, Int.reduceBNe, Int.reduceLT, Int.reduceLE, Int.reduceAdd, Int.reduceSub, Int.reduceMul, kAgg, scD, List.all_cons, List.all_nil]
  · have hk' : k = leaves.length := by
      have : ¬ k < leaves.length := by simpa using h
      omega
    subst hk'
    simp only [nums, rowsS, nodes, zv, bv, sv, nv, VL, VB, BEq.rfl, V1, V2, V3, V4, V5, V6, V7, V8, V9, V10, V11, V12, V13, V14, VE, Nat.reduceBEq, Nat.reduceAdd, Nat.reduceSub, Nat.reduceMul, Nat.reduceLeDiff, Nat.reduceLT, Nat.reduceEqDiff, Int.reduceBEq, Int.reduceBNe, Int.reduceLT, Int.reduceLE, Int.reduceAdd, Int.reduceSub, Int.reduceMul, kAgg, scD, List.all_cons, List.all_nil]

/-! costs -/
def costN (n : Nat) (l : List Nat) (imp : Bool) (i k : Nat) : Int :=
  let x := if l = [] then (3 * i * k) % 256 else l.getD ((i * n + k) % l.length) 0
  if imp = true ∧ x % 7 = 6 then -1 else ((x % 5 : Nat) : Int)
def squareR (n : Nat) (l : List Nat) (imp : Bool) (i k : Nat) : List Int := (List.range k).map (costN n l imp i)
def squareT (n : Nat) (l : List Nat) (imp : Bool) (i : Nat) : List (List Int) := (List.range i).map fun i => squareR n l imp i n
theorem squareR_succ (n : Nat) (l : List Nat) (imp : Bool) (i k : Nat) : squareR n l imp i (k + 1) = squareR n l imp i k ++ [costN n l imp i k] := by simp [squareR, List.range_succ]
theorem squareR_len (n : Nat) (l : List Nat) (imp : Bool) (i k : Nat) : (squareR n l imp i k).length = k := by simp [squareR]
theorem squareT_succ (n : Nat) (l : List Nat) (imp : Bool) (i : Nat) : squareT n l imp (i + 1) = squareT n l imp i ++ [squareR n l imp i n] := by simp [squareT, List.range_succ]
theorem squareT_len (n : Nat) (l : List Nat) (imp : Bool) (i : Nat) : (squareT n l imp i).length = i := by simp [squareT]
/-- rows of own slices -/
def rowsN (m : List (List Int)) : List (List (List D)) := m.map fun r => r.map num
theorem rowsN_D (m : List (List Int)) : rowsD (rowsN m) = m.map rowS := by simp [rowsD, rowsN, rowS]
theorem rowsN_len (m : List (List Int)) : (rowsN m).length = m.length := by simp [rowsN]
theorem rowsN_app (m : List (List Int)) (r : List Int) : rowsN m ++ [r.map num] = rowsN (m ++ [r]) := by simp [rowsN]
theorem square_ok (n : Nat) (l : List Nat) (imp : Bool) (hn : 0 < n) (hn2 : n ≤ 12) (hl : ∀ i, l.getD i 0 < 256) : Ok Try.prog E 23 [nv n, .c (bytesD l), bv imp] (.c (rowsS (squareT n l imp n))) := by
  refine ok_of_vc (L := []) (ts := [6]) envOK mixed Try.func23 rfl (by kernel_rfl) rfl (by kernel_rfl) rfl fun hl => ?_
  simp only [Try.f23, nums, rowsS, nodes, zv, bv, sv, nv, VL, VB, BEq.rfl, V1, V2, V3, V4, V5, V6, V7, V8, V9, V10, V11, V12, V13, V14, VE, Nat.reduceBEq, Nat.reduceAdd, Nat.reduceSub, Nat.reduceMul, Nat.reduceLeDiff, Nat.reduceLT, Nat.reduceEqDiff, Int.reduceBEq, Int.reduceBNe, Int.reduceLT, Int.reduceLE, Int.reduceAdd, Int.reduceSub, Int.reduceMul, kAgg, scD, List.all_cons, List.all_nil]
  refine LoopVC.mk (Y := Nat) (fun i => i ≤ n) (fun i => ⟨[(0, nv n), (1, .c (bytesD l)), (2, bv imp), (7, .osl 1000 0), (13, nv n), (14, nv i)], [(1000, .nest 29 0 0 none (rowsN (squareT n l imp i)))]⟩) (fun i => n - i) ⟨0, Enter.mk [(7, (1000, 100029))] [] [] ?_, by omega⟩ ?_
  · simp only [nums, rowsS, nodes, zv, bv, sv, nv, VL, VB, BEq.rfl, V1, V2, V3, V4, V5, V6, V7, V8, V9, V10, V11, V12, V13, V14, VE, Nat.reduceBEq, Nat.reduceAdd, Nat.reduceSub, Nat.reduceMul, Nat.reduceLeDiff, Nat.reduceLT, Nat.reduceEqDiff, Int.reduceBEq, Int.reduceBNe, Int.reduceLT, Int.reduceLE, Int.reduceAdd, Int.reduceSub, Int.reduceMul, kAgg, scD, List.all_cons, List.all_nil]
    first | exact ⟨rfl, ⟨rfl, rfl⟩, rfl⟩ | exact ⟨rfl, rfl, rfl, rfl⟩ | exact ⟨rfl, rfl, rfl⟩ | exact ⟨⟨rfl, rfl⟩, rfl⟩ | exact ⟨⟨rfl, rfl⟩, rfl, rfl⟩ | exact ⟨rfl, ⟨rfl, rfl⟩⟩ | trace_state
  intro i hi
  simp only [lt_nat, nums, rowsS, nodes, zv, bv, sv, nv, VL, VB, BEq.rfl, V1, V2, V3, V4, V5, V6, V7, V8, V9, V10, V11, V12, V13, V14, VE, Nat.reduceBEq, Nat.reduceAdd, Nat.reduceSub, Nat.reduceMul, Nat.reduceLeDiff, Nat.reduceLT, Nat.reduceEqDiff, Int.reduceBEq, Int.reduceBNe, Int.reduceLT, Int.reduceLE, Int.reduceAdd, Int.reduceSub, Int.reduceMul, kAgg, scD, List.all_cons, List.all_nil]
  refine guardB.mk (fun h => ?_) (fun h => ?_)
  · have hi' : i < n := by simpa using h
    clear h
    have hsl := (rowsN_len (squareT n l imp i)).trans (squareT_len n l imp i)
    have hss := (rowsN_app (squareT n l imp i) (squareR n l imp i n)).trans (congrArg rowsN (squareT_succ n l imp i).symm)
    refine LoopVC.mk (Y := Nat) (fun k => k ≤ n) (fun k => ⟨[(0, nv n), (1, .c (bytesD l)), (2, bv imp), (7, .osl 1000 0), (8, nv i), (9, .osl 1001 0), (13, nv n), (14, nv i), (17, nv n), (18, nv k)], [(1000, .nest 29 0 0 none (rowsN (squareT n l imp i))), (1001, .arr 2 0 ((squareR n l imp i k).map num))]⟩) (fun k => n - k) ⟨0, Enter.mk [(9, (1001, 2))] [] [] ?_, by omega⟩ ?_
    · simp only [nums, rowsS, nodes, zv, bv, sv, nv, VL, VB, BEq.rfl, V1, V2, V3, V4, V5, V6, V7, V8, V9, V10, V11, V12, V13, V14, VE, Nat.reduceBEq, Nat.reduceAdd, Nat.reduceSub, Nat.reduceMul, Nat.reduceLeDiff, Nat.reduceLT, Nat.reduceEqDiff, Int.reduceBEq, Int.reduceBNe, Int.reduceLT, Int.reduceLE, Int.reduceAdd, Int.reduceSub, Int.reduceMul, kAgg, scD, List.all_cons, List.all_nil]
      exact ⟨rfl, ⟨rfl, rfl⟩, rfl⟩
    intro k hk
    simp only [lt_nat, nums, rowsS, nodes, zv, bv, sv, nv, VL, VB, BEq.rfl, V1, V2, V3, V4, V5, V6, V7, V8, V9, V10, V11, V12, V13, V14, VE, Nat.reduceBEq, Nat.reduceAdd, Nat.reduceSub, Nat.reduceMul, Nat.reduceLeDiff, Nat.reduceLT, Nat.reduceEqDiff, Int.reduceBEq, Int.reduceBNe, Int.reduceLT, Int.reduceLE, Int.reduceAdd, Int.reduceSub, Int.reduceMul, kAgg, scD, List.all_cons, List.all_nil]
    refine guardB.mk (fun h => ?_) (fun h => ?_)
    · have hk' : k < n := by simpa using h
      clear h
      have hrl := squareR_len n l imp i k
      have hrs := squareR_succ n l imp i k
      have hik : 3 * i * k < 1000 := by
        have h1 : 3 * i * k ≤ 33 * 11 := Nat.mul_le_mul (by omega) (by omega)
        omega
      have hin : i * n + k < 1000 := by
        have h1 : i * n ≤ 11 * 12 := Nat.mul_le_mul (by omega) (by omega)
        omega
      have hw1 : IntKind.i64.wrap (3 * (i : Int)) = ((3 * i : Nat) : Int) := by rw [wrap_in (by omega) (by omega)]; omega
      have hw2 : IntKind.i64.wrap (((3 * i : Nat) : Int) * (k : Int)) = ((3 * i * k : Nat) : Int) := by
        rw [show ((3 * i : Nat) : Int) * (k : Int) = ((3 * i * k : Nat) : Int) by rw [Int.natCast_mul (3 * i) k], wrap_in (by omega) (by omega)]
      have hw3 : IntKind.u8.wrap ((3 * i * k : Nat) : Int) = ((3 * i * k % 256 : Nat) : Int) := by rw [IntKind.wrap_u8]; omega
      have hw4 : IntKind.i64.wrap ((i : Int) * (n : Int)) = ((i * n : Nat) : Int) := by
        rw [← Int.natCast_mul, wrap_in (by omega) (by omega)]
      have hw5 : IntKind.i64.wrap (((i * n : Nat) : Int) + (k : Int)) = ((i * n + k : Nat) : Int) := by rw [wrap_in (by omega) (by omega)]; omega
      have hm2 : Int.tmod ((i * n + k : Nat) : Int) (l.length : Int) = (((i * n + k) % l.length : Nat) : Int) := tmodN _ l.length
      have hg : decide ((0 : Int) < (l.length : Int)) = decide (l ≠ []) := by
        congr 1
        exact propext ⟨fun h e => by rw [e] at h; simp at h, fun h => by have := List.length_pos_iff.2 h; omega⟩
      have hcn : costN n l imp i k = if imp = true ∧ (if l = [] then 3 * i * k % 256 else l.getD ((i * n + k) % l.length) 0) % 7 = 6 then -1 else (((if l = [] then 3 * i * k % 256 else l.getD ((i * n + k) % l.length) 0) % 5 : Nat) : Int) := rfl
      obtain ⟨x, hx⟩ : ∃ x, (if l = [] then 3 * i * k % 256 else l.getD ((i * n + k) % l.length) 0) = x := ⟨_, rfl⟩
      rw [hx] at hcn
      simp only [hw1, hw2, hw3, hg, nums, rowsS, nodes, zv, bv, sv, nv, VL, VB, BEq.rfl, V1, V2, V3, V4, V5, V6, V7, V8, V9, V10, V11, V12, V13, V14, VE, Nat.reduceBEq, Nat.reduceAdd, Nat.reduceSub, Nat.reduceMul, Nat.reduceLeDiff, Nat.reduceLT, Nat.reduceEqDiff, Int.reduceBEq, Int.reduceBNe, Int.reduceLT, Int.reduceLE, Int.reduceAdd, Int.reduceSub, Int.reduceMul, kAgg, scD, List.all_cons, List.all_nil]
      refine guardB.mk (fun h => ?_) (fun h => ?_) <;> simp only [h, nums, rowsS, nodes, zv, bv, sv, nv, VL, VB, BEq.rfl, V1, V2, V3, V4, V5, V6, V7, V8, V9, V10, V11, V12, V13, V14, VE, Nat.reduceBEq, Nat.reduceAdd, Nat.reduceSub, Nat.reduceMul, Nat.reduceLeDiff, Nat.reduceLT, Nat.reduceEqDiff, Int.reduceBEq, Int.reduceBNe, Int.reduceLT, Int.reduceLE, Int.reduceAdd, Int.reduceSub, Int.reduceMul, kAgg, scD, List.all_cons, List.all_nil]
      · have h : l ≠ [] := by simpa using h
        have hpos := List.length_pos_iff.2 h
        have hlt : (i * n + k) % l.length < l.length := Nat.mod_lt _ hpos
        rw [if_neg h] at hx
        obtain ⟨j, hj⟩ : ∃ j, (i * n + k) % l.length = j := ⟨_, rfl⟩
        rw [hj] at hm2 hlt hx
        have hgj := getD_u8 l j hlt
        have hq256 := (by assumption : ∀ i, l.getD i 0 < 256) j
        rw [hx] at hgj hq256
        simp only [hw4, hw5, hm2, hgj, u8E_def, nums, rowsS, nodes, zv, bv, sv, nv, VL, VB, BEq.rfl, V1, V2, V3, V4, V5, V6, V7, V8, V9, V10, V11, V12, V13, V14, VE, Nat.reduceBEq, Nat.reduceAdd, Nat.reduceSub, Nat.reduceMul, Nat.reduceLeDiff, Nat.reduceLT, Nat.reduceEqDiff, Int.reduceBEq, Int.reduceBNe, Int.reduceLT, Int.reduceLE, Int.reduceAdd, Int.reduceSub, Int.reduceMul, kAgg, scD, List.all_cons, List.all_nil]
        refine ⟨by omega, ⟨Int.natCast_nonneg j, hlt⟩, by decide, ?_⟩
        have hm5 : Int.tmod (x : Int) 5 = ((x % 5 : Nat) : Int) := tmodN x 5
        have hm7 : Int.tmod (x : Int) 7 = ((x % 7 : Nat) : Int) := tmodN x 7
        have hw6 : IntKind.i64.wrap ((x % 5 : Nat) : Int) = ((x % 5 : Nat) : Int) := wrap_in (by omega) (by omega)
        have e6 : (((x % 7 : Nat) : Int) == 6) = decide (x % 7 = 6) := by rw [int_beq]; congr 1; exact propext ⟨fun h => by omega, fun h => by omega⟩
        simp only [hm5, hw6, nums, rowsS, nodes, zv, bv, sv, nv, VL, VB, BEq.rfl, V1, V2, V3, V4, V5, V6, V7, V8, V9, V10, V11, V12, V13, V14, VE, Nat.reduceBEq, Nat.reduceAdd, Nat.reduceSub, Nat.reduceMul, Nat.reduceLeDiff, Nat.reduceLT, Nat.reduceEqDiff, Int.reduceBEq, Int.reduceBNe, Int.reduceLT, Int.reduceLE, Int.reduceAdd, Int.reduceSub, Int.reduceMul, kAgg, scD, List.all_cons, List.all_nil]
        refine guardB.mk (fun h => ?_) (fun h => ?_)
        · subst h
          simp only [hm5, hm7, hw6, e6, nums, rowsS, nodes, zv, bv, sv, nv, VL, VB, BEq.rfl, V1, V2, V3, V4, V5, V6, V7, V8, V9, V10, V11, V12, V13, V14, VE, Nat.reduceBEq, Nat.reduceAdd, Nat.reduceSub, Nat.reduceMul, Nat.reduceLeDiff, Nat.reduceLT, Nat.reduceEqDiff, Int.reduceBEq, Int.reduceBNe, Int.reduceLT, Int.reduceLE, Int.reduceAdd, Int.reduceSub, Int.reduceMul, kAgg, scD, List.all_cons, List.all_nil]
          refine ⟨by decide, ?_⟩
          refine guardB.mk (fun h => ?_) (fun h => ?_) <;> simp only [h, nums, rowsS, nodes, zv, bv, sv, nv, VL, VB, BEq.rfl, V1, V2, V3, V4, V5, V6, V7, V8, V9, V10, V11, V12, V13, V14, VE, Nat.reduceBEq, Nat.reduceAdd, Nat.reduceSub, Nat.reduceMul, Nat.reduceLeDiff, Nat.reduceLT, Nat.reduceEqDiff, Int.reduceBEq, Int.reduceBNe, Int.reduceLT, Int.reduceLE, Int.reduceAdd, Int.reduceSub, Int.reduceMul, kAgg, scD, List.all_cons, List.all_nil]
          · have h7 : x % 7 = 6 := by simpa using h
            rw [if_pos ⟨rfl, h7⟩] at hcn
            simp only [← hcn, hrl, nums, rowsS, nodes, zv, bv, sv, nv, VL, VB, BEq.rfl, V1, V2, V3, V4, V5, V6, V7, V8, V9, V10, V11, V12, V13, V14, VE, Nat.reduceBEq, Nat.reduceAdd, Nat.reduceSub, Nat.reduceMul, Nat.reduceLeDiff, Nat.reduceLT, Nat.reduceEqDiff, Int.reduceBEq, Int.reduceBNe, Int.reduceLT, Int.reduceLE, Int.reduceAdd, Int.reduceSub, Int.reduceMul, kAgg, scD, List.all_cons, List.all_nil]
            refine ⟨⟨by omega, allLen_num [costN n l _ i k]⟩, ?_⟩
            simp only [wrap_nat (k := k) (by omega), nums, rowsS, nodes, zv, bv, sv, nv, VL, VB, BEq.rfl, V1, V2, V3, V4, V5, V6, V7, V8, V9, V10, V11, V12, V13, V14, VE, Nat.reduceBEq, Nat.reduceAdd, Nat.reduceSub, Nat.reduceMul, Nat.reduceLeDiff, Nat.reduceLT, Nat.reduceEqDiff, Int.reduceBEq, Int.reduceBNe, Int.reduceLT, Int.reduceLE, Int.reduceAdd, Int.reduceSub, Int.reduceMul, kAgg, scD, List.all_cons, List.all_nil]
            refine ⟨k + 1, Enter.id ?_, by omega, by show n - (k + 1) < n - k; omega⟩
            simp only [hrs, List.map_append, num_def, nums, rowsS, nodes, zv, bv, sv, nv, VL, VB, BEq.rfl, V1, V2, V3, V4, V5, V6, V7, V8, V9, V10, V11, V12, V13, V14, VE, Nat.reduceBEq, Nat.reduceAdd, Nat.reduceSub, Nat.reduceMul, Nat.reduceLeDiff, Nat.reduceLT, Nat.reduceEqDiff, Int.reduceBEq, Int.reduceBNe, Int.reduceLT, Int.reduceLE, Int.reduceAdd, Int.reduceSub, Int.reduceMul, kAgg, scD, List.all_cons, List.all_nil]
          · have h7 : ¬ x % 7 = 6 := by simpa using h
            rw [if_neg (fun e => h7 e.2)] at hcn
            simp only [← hcn, hrl, nums, rowsS, nodes, zv, bv, sv, nv, VL, VB, BEq.rfl, V1, V2, V3, V4, V5, V6, V7, V8, V9, V10, V11, V12, V13, V14, VE, Nat.reduceBEq, Nat.reduceAdd, Nat.reduceSub, Nat.reduceMul, Nat.reduceLeDiff, Nat.reduceLT, Nat.reduceEqDiff, Int.reduceBEq, Int.reduceBNe, Int.reduceLT, Int.reduceLE, Int.reduceAdd, Int.reduceSub, Int.reduceMul, kAgg, scD, List.all_cons, List.all_nil]
            refine ⟨⟨by omega, allLen_num [costN n l _ i k]⟩, ?_⟩
            simp only [wrap_nat (k := k) (by omega), nums, rowsS, nodes, zv, bv, sv, nv, VL, VB, BEq.rfl, V1, V2, V3, V4, V5, V6, V7, V8, V9, V10, V11, V12, V13, V14, VE, Nat.reduceBEq, Nat.reduceAdd, Nat.reduceSub, Nat.reduceMul, Nat.reduceLeDiff, Nat.reduceLT, Nat.reduceEqDiff, Int.reduceBEq, Int.reduceBNe, Int.reduceLT, Int.reduceLE, Int.reduceAdd, Int.reduceSub, Int.reduceMul, kAgg, scD, List.all_cons, List.all_nil]
            refine ⟨k + 1, Enter.id ?_, by omega, by show n - (k + 1) < n - k; omega⟩
            simp only [hrs, List.map_append, num_def, nums, rowsS, nodes, zv, bv, sv, nv, VL, VB, BEq.rfl, V1, V2, V3, V4, V5, V6, V7, V8, V9, V10, V11, V12, V13, V14, VE, Nat.reduceBEq, Nat.reduceAdd, Nat.reduceSub, Nat.reduceMul, Nat.reduceLeDiff, Nat.reduceLT, Nat.reduceEqDiff, Int.reduceBEq, Int.reduceBNe, Int.reduceLT, Int.reduceLE, Int.reduceAdd, Int.reduceSub, Int.reduceMul, kAgg, scD, List.all_cons, List.all_nil]
        · subst h
          simp only [hm5, hw6, nums, rowsS, nodes, zv, bv, sv, nv, VL, VB, BEq.rfl, V1, V2, V3, V4, V5, V6, V7, V8, V9, V10, V11, V12, V13, V14, VE, Nat.reduceBEq, Nat.reduceAdd, Nat.reduceSub, Nat.reduceMul, Nat.reduceLeDiff, Nat.reduceLT, Nat.reduceEqDiff, Int.reduceBEq, Int.reduceBNe, Int.reduceLT, Int.reduceLE, Int.reduceAdd, Int.reduceSub, Int.reduceMul, kAgg, scD, List.all_cons, List.all_nil]
          rw [if_neg (fun e => by cases e.1)] at hcn
          simp only [← hcn, hrl, nums, rowsS, nodes, zv, bv, sv, nv, VL, VB, BEq.rfl, V1, V2, V3, V4, V5, V6, V7, V8, V9, V10, V11, V12, V13, V14, VE, Nat.reduceBEq, Nat.reduceAdd, Nat.reduceSub, Nat.reduceMul, Nat.reduceLeDiff, Nat.reduceLT, Nat.reduceEqDiff, Int.reduceBEq, Int.reduceBNe, Int.reduceLT, Int.reduceLE, Int.reduceAdd, Int.reduceSub, Int.reduceMul, kAgg, scD, List.all_cons, List.all_nil]
          refine ⟨⟨by omega, allLen_num [costN n l _ i k]⟩, ?_⟩
          simp only [wrap_nat (k := k) (by omega), nums, rowsS, nodes, zv, bv, sv, nv, VL, VB, BEq.rfl, V1, V2, V3, V4, V5, V6, V7, V8, V9, V10, V11, V12, V13, V14, VE, Nat.reduceBEq, Nat.reduceAdd, Nat.reduceSub, Nat.reduceMul, Nat.reduceLeDiff, Nat.reduceLT, Nat.reduceEqDiff, Int.reduceBEq, Int.reduceBNe, Int.reduceLT, Int.reduceLE, Int.reduceAdd, Int.reduceSub, Int.reduceMul, kAgg, scD, List.all_cons, List.all_nil]
          refine ⟨k + 1, Enter.id ?_, by omega, by show n - (k + 1) < n - k; omega⟩
          simp only [hrs, List.map_append, num_def, nums, rowsS, nodes, zv, bv, sv, nv, VL, VB, BEq.rfl, V1, V2, V3, V4, V5, V6, V7, V8, V9, V10, V11, V12, V13, V14, VE, Nat.reduceBEq, Nat.reduceAdd, Nat.reduceSub, Nat.reduceMul, Nat.reduceLeDiff, Nat.reduceLT, Nat.reduceEqDiff, Int.reduceBEq, Int.reduceBNe, Int.reduceLT, Int.reduceLE, Int.reduceAdd, Int.reduceSub, Int.reduceMul, kAgg, scD, List.all_cons, List.all_nil]
      · have h : l = [] := by simpa using h
        rw [if_pos h] at hx
        have hq256 : x < 256 := by omega
        simp only [hx]
        refine ⟨by decide, ?_⟩
        have hm5 : Int.tmod (x : Int) 5 = ((x % 5 : Nat) : Int) := tmodN x 5
        have hm7 : Int.tmod (x : Int) 7 = ((x % 7 : Nat) : Int) := tmodN x 7
        have hw6 : IntKind.i64.wrap ((x % 5 : Nat) : Int) = ((x % 5 : Nat) : Int) := wrap_in (by omega) (by omega)
        have e6 : (((x % 7 : Nat) : Int) == 6) = decide (x % 7 = 6) := by rw [int_beq]; congr 1; exact propext ⟨fun h => by omega, fun h => by omega⟩
        simp only [hm5, hw6, nums, rowsS, nodes, zv, bv, sv, nv, VL, VB, BEq.rfl, V1, V2, V3, V4, V5, V6, V7, V8, V9, V10, V11, V12, V13, V14, VE, Nat.reduceBEq, Nat.reduceAdd, Nat.reduceSub, Nat.reduceMul, Nat.reduceLeDiff, Nat.reduceLT, Nat.reduceEqDiff, Int.reduceBEq, Int.reduceBNe, Int.reduceLT, Int.reduceLE, Int.reduceAdd, Int.reduceSub, Int.reduceMul, kAgg, scD, List.all_cons, List.all_nil]
        refine guardB.mk (fun h => ?_) (fun h => ?_)
        · subst h
          simp only [hm5, hm7, hw6, e6, nums, rowsS, nodes, zv, bv, sv, nv, VL, VB, BEq.rfl, V1, V2, V3, V4, V5, V6, V7, V8, V9, V10, V11, V12, V13, V14, VE, Nat.reduceBEq, Nat.reduceAdd, Nat.reduceSub, Nat.reduceMul, Nat.reduceLeDiff, Nat.reduceLT, Nat.reduceEqDiff, Int.reduceBEq, Int.reduceBNe, Int.reduceLT, Int.reduceLE, Int.reduceAdd, Int.reduceSub, Int.reduceMul, kAgg, scD, List.all_cons, List.all_nil]
          refine ⟨by decide, ?_⟩
          refine guardB.mk (fun h => ?_) (fun h => ?_) <;> simp only [h, nums, rowsS, nodes, zv, bv, sv, nv, VL, VB, BEq.rfl, V1, V2, V3, V4, V5, V6, V7, V8, V9, V10, V11, V12, V13, V14, VE, Nat.reduceBEq, Nat.reduceAdd, Nat.reduceSub, Nat.reduceMul, Nat.reduceLeDiff, Nat.reduceLT, Nat.reduceEqDiff, Int.reduceBEq, Int.reduceBNe, Int.reduceLT, Int.reduceLE, Int.reduceAdd, Int.reduceSub, Int.reduceMul, kAgg, scD, List.all_cons, List.all_nil]
          · have h7 : x % 7 = 6 := by simpa using h
            rw [if_pos ⟨rfl, h7⟩] at hcn
            simp only [← hcn, hrl, nums, rowsS, nodes, zv, bv, sv, nv, VL, VB, BEq.rfl, V1, V2, V3, V4, V5, V6, V7, V8, V9, V10, V11, V12, V13, V14, VE, Nat.reduceBEq, Nat.reduceAdd, Nat.reduceSub, Nat.reduceMul, Nat.reduceLeDiff, Nat.reduceLT, Nat.reduceEqDiff, Int.reduceBEq, Int.reduceBNe, Int.reduceLT, Int.reduceLE, Int.reduceAdd, Int.reduceSub, Int.reduceMul, kAgg, scD, List.all_cons, List.all_nil]
            refine ⟨⟨by omega, allLen_num [costN n l _ i k]⟩, ?_⟩
            simp only [wrap_nat (k := k) (by omega), nums, rowsS, nodes, zv, bv, sv, nv, VL, VB, BEq.rfl, V1, V2, V3, V4, V5, V6, V7, V8, V9, V10, V11, V12, V13, V14, VE, Nat.reduceBEq, Nat.reduceAdd, Nat.reduceSub, Nat.reduceMul, Nat.reduceLeDiff, Nat.reduceLT, Nat.reduceEqDiff, Int.reduceBEq, Int.reduceBNe, Int.reduceLT, Int.reduceLE, Int.reduceAdd, Int.reduceSub, Int.reduceMul, kAgg, scD, List.all_cons, List.all_nil]
            refine ⟨k + 1, Enter.id ?_, by omega, by show n - (k + 1) < n - k; omega⟩
            simp only [hrs, List.map_append, num_def, nums, rowsS, nodes, zv, bv, sv, nv, VL, VB, BEq.rfl, V1, V2, V3, V4, V5, V6, V7, V8, V9, V10, V11, V12, V13, V14, VE, Nat.reduceBEq, Nat.reduceAdd, Nat.reduceSub, Nat.reduceMul, Nat.reduceLeDiff, Nat.reduceLT, Nat.reduceEqDiff, Int.reduceBEq, Int.reduceBNe, Int.reduceLT, Int.reduceLE, Int.reduceAdd, Int.reduceSub, Int.reduceMul, kAgg, scD, List.all_cons, List.all_nil]
          · have h7 : ¬ x % 7 = 6 := by simpa using h
            rw [if_neg (fun e => h7 e.2)] at hcn
            simp only [← hcn, hrl, nums, rowsS, nodes, zv, bv, sv, nv, VL, VB, BEq.rfl, V1, V2, V3, V4, V5, V6, V7, V8, V9, V10, V11, V12, V13, V14, VE, Nat.reduceBEq, Nat.reduceAdd, Nat.reduceSub, Nat.reduceMul, Nat.reduceLeDiff, Nat.reduceLT, Nat.reduceEqDiff, Int.reduceBEq, Int.reduceBNe, Int.reduceLT, Int.reduceLE, Int.reduceAdd, Int.reduceSub, Int.reduceMul, kAgg, scD, List.all_cons, List.all_nil]
            refine ⟨⟨by omega, allLen_num [costN n l _ i k]⟩, ?_⟩
            simp only [wrap_nat (k := k) (by omega), nums, rowsS, nodes, zv, bv, sv, nv, VL, VB, BEq.rfl, V1, V2, V3, V4, V5, V6, V7, V8, V9, V10, V11, V12, V13, V14, VE, Nat.reduceBEq, Nat.reduceAdd, Nat.reduceSub, Nat.reduceMul, Nat.reduceLeDiff, Nat.reduceLT, Nat.reduceEqDiff, Int.reduceBEq, Int.reduceBNe, Int.reduceLT, Int.reduceLE, Int.reduceAdd, Int.reduceSub, Int.reduceMul, kAgg, scD, List.all_cons, List.all_nil]
            refine ⟨k + 1, Enter.id ?_, by omega, by show n - (k + 1) < n - k; omega⟩
            simp only [hrs, List.map_append, num_def, nums, rowsS, nodes, zv, bv, sv, nv, VL, VB, BEq.rfl, V1, V2, V3, V4, V5, V6, V7, V8, V9, V10, V11, V12, V13, V14, VE, Nat.reduceBEq, Nat.reduceAdd, Nat.reduceSub, Nat.reduceMul, Nat.reduceLeDiff, Nat.reduceLT, Nat.reduceEqDiff, Int.reduceBEq, Int.reduceBNe, Int.reduceLT, Int.reduceLE, Int.reduceAdd, Int.reduceSub, Int.reduceMul, kAgg, scD, List.all_cons, List.all_nil]
        · subst h
          simp only [hm5, hw6, nums, rowsS, nodes, zv, bv, sv, nv, VL, VB, BEq.rfl, V1, V2, V3, V4, V5, V6, V7, V8, V9, V10, V11, V12, V13, V14, VE, Nat.reduceBEq, Nat.reduceAdd, Nat.reduceSub, Nat.reduceMul, Nat.reduceLeDiff, Nat.reduceLT, Nat.reduceEqDiff, Int.reduceBEq, Int.reduceBNe, Int.reduceLT, Int.reduceLE, Int.reduceAdd, Int.reduceSub, Int.reduceMul, kAgg, scD, List.all_cons, List.all_nil]
          rw [if_neg (fun e => by cases e.1)] at hcn
          simp only [← hcn, hrl, nums, rowsS, nodes, zv, bv, sv, nv, VL, VB, BEq.rfl, V1, V2, V3, V4, V5, V6, V7, V8, V9, V10, V11, V12, V13, V14, VE, Nat.reduceBEq, Nat.reduceAdd, Nat.reduceSub, Nat.reduceMul, Nat.reduceLeDiff, Nat.reduceLT, Nat.reduceEqDiff, Int.reduceBEq, Int.reduceBNe, Int.reduceLT, Int.reduceLE, Int.reduceAdd, Int.reduceSub, Int.reduceMul, kAgg, scD, List.all_cons, List.all_nil]
          refine ⟨⟨by omega, allLen_num [costN n l _ i k]⟩, ?_⟩
          simp only [wrap_nat (k := k) (by omega), nums, rowsS, nodes, zv, bv, sv, nv, VL, VB, BEq.rfl, V1, V2, V3, V4, V5, V6, V7, V8, V9, V10, V11, V12, V13, V14, VE, Nat.reduceBEq, Nat.reduceAdd, Nat.reduceSub, Nat.reduceMul, Nat.reduceLeDiff, Nat.reduceLT, Nat.reduceEqDiff, Int.reduceBEq, Int.reduceBNe, Int.reduceLT, Int.reduceLE, Int.reduceAdd, Int.reduceSub, Int.reduceMul, kAgg, scD, List.all_cons, List.all_nil]
          refine ⟨k + 1, Enter.id ?_, by omega, by show n - (k + 1) < n - k; omega⟩
          simp only [hrs, List.map_append, num_def, nums, rowsS, nodes, zv, bv, sv, nv, VL, VB, BEq.rfl, V1, V2, V3, V4, V5, V6, V7, V8, V9, V10, V11, V12, V13, V14, VE, Nat.reduceBEq, Nat.reduceAdd, Nat.reduceSub, Nat.reduceMul, Nat.reduceLeDiff, Nat.reduceLT, Nat.reduceEqDiff, Int.reduceBEq, Int.reduceBNe, Int.reduceLT, Int.reduceLE, Int.reduceAdd, Int.reduceSub, Int.reduceMul, kAgg, scD, List.all_cons, List.all_nil]
    · have hk' : k = n := by
        have : ¬ k < n := by simpa using h
        omega
      subst hk'
      simp only [wrap_nat (k := i) (by omega), hsl, nums, rowsS, nodes, zv, bv, sv, nv, VL, VB, BEq.rfl, V1, V2, V3, V4, V5, V6, V7, V8, V9, V10, V11, V12, V13, V14, VE, Nat.reduceBEq, Nat.reduceAdd, Nat.reduceSub, Nat.reduceMul, Nat.reduceLeDiff, Nat.reduceLT, Nat.reduceEqDiff, Int.reduceBEq, Int.reduceBNe, Int.reduceLT, Int.reduceLE, Int.reduceAdd, Int.reduceSub, Int.reduceMul, kAgg, scD, List.all_cons, List.all_nil]
      refine ⟨by omega, i + 1, Enter.id ?_, by omega, by show k - (i + 1) < k - i; omega⟩
      simp only [hss, nums, rowsS, nodes, zv, bv, sv, nv, VL, VB, BEq.rfl, V1, V2, V3, V4, V5, V6, V7, V8, V9, V10, V11, V12, V13, V14, VE, Nat.reduceBEq, Nat.reduceAdd, Nat.reduceSub, Nat.reduceMul, Nat.reduceLeDiff, Nat.reduceLT, Nat.reduceEqDiff, Int.reduceBEq, Int.reduceBNe, Int.reduceLT, Int.reduceLE, Int.reduceAdd, Int.reduceSub, Int.reduceMul, kAgg, scD, List.all_cons, List.all_nil]
  · have hi' : i = n := by
      have : ¬ i < n := by simpa using h
      omega
    subst hi'
    simp only [rowsN_D, nums, rowsS, nodes, zv, bv, sv, nv, VL, VB, BEq.rfl, V1, V2, V3, V4, V5, V6, V7, V8, V9, V10, V11, V12, V13, V14, VE, Nat.reduceBEq, Nat.reduceAdd, Nat.reduceSub, Nat.reduceMul, Nat.reduceLeDiff, Nat.reduceLT, Nat.reduceEqDiff, Int.reduceBEq, Int.reduceBNe, Int.reduceLT, Int.reduceLE, Int.reduceAdd, Int.reduceSub, Int.reduceMul, kAgg, scD, List.all_cons, List.all_nil]
theorem square_okN (n : Nat) (l : List Nat) (imp : Bool) (hn : 0 < n) (hn2 : n ≤ 12) (hl : ∀ i, l.getD i 0 < 256) : OkM Try.prog E 23 [nv n, .c (bytesD l), bv imp] [] (.osl 900 0) [(900, .nest 29 0 0 none (rowsN (squareT n l imp n)))] := by
  refine okM_of_vc (L := []) (ts := [6]) envOK mixed Try.func23 rfl (by kernel_rfl) rfl (by decide) (by kernel_rfl) rfl fun hl hlb => ?_
  simp only [Try.f23, nums, rowsS, nodes, zv, bv, sv, nv, VL, VB, BEq.rfl, V1, V2, V3, V4, V5, V6, V7, V8, V9, V10, V11, V12, V13, V14, VE, Nat.reduceBEq, Nat.reduceAdd, Nat.reduceSub, Nat.reduceMul, Nat.reduceLeDiff, Nat.reduceLT, Nat.reduceEqDiff, Int.reduceBEq, Int.reduceBNe, Int.reduceLT, Int.reduceLE, Int.reduceAdd, Int.reduceSub, Int.reduceMul, kAgg, scD, List.all_cons, List.all_nil]
  refine LoopVC.mk (Y := Nat) (fun i => i ≤ n) (fun i => ⟨[(0, nv n), (1, .c (bytesD l)), (2, bv imp), (7, .osl 1000 0), (13, nv n), (14, nv i)], [(1000, .nest 29 0 0 none (rowsN (squareT n l imp i)))]⟩) (fun i => n - i) ⟨0, Enter.mk [(7, (1000, 100029))] [] [] ?_, by omega⟩ ?_
  · simp only [nums, rowsS, nodes, zv, bv, sv, nv, VL, VB, BEq.rfl, V1, V2, V3, V4, V5, V6, V7, V8, V9, V10, V11, V12, V13, V14, VE, Nat.reduceBEq, Nat.reduceAdd, Nat.reduceSub, Nat.reduceMul, Nat.reduceLeDiff, Nat.reduceLT, Nat.reduceEqDiff, Int.reduceBEq, Int.reduceBNe, Int.reduceLT, Int.reduceLE, Int.reduceAdd, Int.reduceSub, Int.reduceMul, kAgg, scD, List.all_cons, List.all_nil]
    first | exact ⟨rfl, ⟨rfl, rfl⟩, rfl⟩ | exact ⟨rfl, rfl, rfl, rfl⟩ | exact ⟨rfl, rfl, rfl⟩ | exact ⟨⟨rfl, rfl⟩, rfl⟩ | exact ⟨⟨rfl, rfl⟩, rfl, rfl⟩ | exact ⟨rfl, ⟨rfl, rfl⟩⟩ | trace_state
  intro i hi
  simp only [lt_nat, nums, rowsS, nodes, zv, bv, sv, nv, VL, VB, BEq.rfl, V1, V2, V3, V4, V5, V6, V7, V8, V9, V10, V11, V12, V13, V14, VE, Nat.reduceBEq, Nat.reduceAdd, Nat.reduceSub, Nat.reduceMul, Nat.reduceLeDiff, Nat.reduceLT, Nat.reduceEqDiff, Int.reduceBEq, Int.reduceBNe, Int.reduceLT, Int.reduceLE, Int.reduceAdd, Int.reduceSub, Int.reduceMul, kAgg, scD, List.all_cons, List.all_nil]
  refine guardB.mk (fun h => ?_) (fun h => ?_)
  · have hi' : i < n := by simpa using h
    clear h
    have hsl := (rowsN_len (squareT n l imp i)).trans (squareT_len n l imp i)
    have hss := (rowsN_app (squareT n l imp i) (squareR n l imp i n)).trans (congrArg rowsN (squareT_succ n l imp i).symm)
    refine LoopVC.mk (Y := Nat) (fun k => k ≤ n) (fun k => ⟨[(0, nv n), (1, .c (bytesD l)), (2, bv imp), (7, .osl 1000 0), (8, nv i), (9, .osl 1001 0), (13, nv n), (14, nv i), (17, nv n), (18, nv k)], [(1000, .nest 29 0 0 none (rowsN (squareT n l imp i))), (1001, .arr 2 0 ((squareR n l imp i k).map num))]⟩) (fun k => n - k) ⟨0, Enter.mk [(9, (1001, 2))] [] [] ?_, by omega⟩ ?_
    · simp only [nums, rowsS, nodes, zv, bv, sv, nv, VL, VB, BEq.rfl, V1, V2, V3, V4, V5, V6, V7, V8, V9, V10, V11, V12, V13, V14, VE, Nat.reduceBEq, Nat.reduceAdd, Nat.reduceSub, Nat.reduceMul, Nat.reduceLeDiff, Nat.reduceLT, Nat.reduceEqDiff, Int.reduceBEq, Int.reduceBNe, Int.reduceLT, Int.reduceLE, Int.reduceAdd, Int.reduceSub, Int.reduceMul, kAgg, scD, List.all_cons, List.all_nil]
      exact ⟨rfl, ⟨rfl, rfl⟩, rfl⟩
    intro k hk
    simp only [lt_nat, nums, rowsS, nodes, zv, bv, sv, nv, VL, VB, BEq.rfl, V1, V2, V3, V4, V5, V6, V7, V8, V9, V10, V11, V12, V13, V14, VE, Nat.reduceBEq, Nat.reduceAdd, Nat.reduceSub, Nat.reduceMul, Nat.reduceLeDiff, Nat.reduceLT, Nat.reduceEqDiff, Int.reduceBEq, Int.reduceBNe, Int.reduceLT, Int.reduceLE, Int.reduceAdd, Int.reduceSub, Int.reduceMul, kAgg, scD, List.all_cons, List.all_nil]
    refine guardB.mk (fun h => ?_) (fun h => ?_)
    · have hk' : k < n := by simpa using h
      clear h
      have hrl := squareR_len n l imp i k
      have hrs := squareR_succ n l imp i k
      have hik : 3 * i * k < 1000 := by
        have h1 : 3 * i * k ≤ 33 * 11 := Nat.mul_le_mul (by omega) (by omega)
        omega
      have hin : i * n + k < 1000 := by
        have h1 : i * n ≤ 11 * 12 := Nat.mul_le_mul (by omega) (by omega)
        omega
      have hw1 : IntKind.i64.wrap (3 * (i : Int)) = ((3 * i : Nat) : Int) := by rw [wrap_in (by omega) (by omega)]; omega
      have hw2 : IntKind.i64.wrap (((3 * i : Nat) : Int) * (k : Int)) = ((3 * i * k : Nat) : Int) := by
        rw [show ((3 * i : Nat) : Int) * (k : Int) = ((3 * i * k : Nat) : Int) by rw [Int.natCast_mul (3 * i) k], wrap_in (by omega) (by omega)]
      have hw3 : IntKind.u8.wrap ((3 * i * k : Nat) : Int) = ((3 * i * k % 256 : Nat) : Int) := by rw [IntKind.wrap_u8]; omega
      have hw4 : IntKind.i64.wrap ((i : Int) * (n : Int)) = ((i * n : Nat) : Int) := by
        rw [← Int.natCast_mul, wrap_in (by omega) (by omega)]
      have hw5 : IntKind.i64.wrap (((i * n : Nat) : Int) + (k : Int)) = ((i * n + k : Nat) : Int) := by rw [wrap_in (by omega) (by omega)]; omega
      have hm2 : Int.tmod ((i * n + k : Nat) : Int) (l.length : Int) = (((i * n + k) % l.length : Nat) : Int) := tmodN _ l.length
      have hg : decide ((0 : Int) < (l.length : Int)) = decide (l ≠ []) := by
        congr 1
        exact propext ⟨fun h e => by rw [e] at h; simp at h, fun h => by have := List.length_pos_iff.2 h; omega⟩
      have hcn : costN n l imp i k = if imp = true ∧ (if l = [] then 3 * i * k % 256 else l.getD ((i * n + k) % l.length) 0) % 7 = 6 then -1 else (((if l = [] then 3 * i * k % 256 else l.getD ((i * n + k) % l.length) 0) % 5 : Nat) : Int) := rfl
      obtain ⟨x, hx⟩ : ∃ x, (if l = [] then 3 * i * k % 256 else l.getD ((i * n + k) % l.length) 0) = x := ⟨_, rfl⟩
      rw [hx] at hcn
      simp only [hw1, hw2, hw3, hg, nums, rowsS, nodes, zv, bv, sv, nv, VL, VB, BEq.rfl, V1, V2, V3, V4, V5, V6, V7, V8, V9, V10, V11, V12, V13, V14, VE, Nat.reduceBEq, Nat.reduceAdd, Nat.reduceSub, Nat.reduceMul, Nat.reduceLeDiff, Nat.reduceLT, Nat.reduceEqDiff, Int.reduceBEq, Int.reduceBNe, Int.reduceLT, Int.reduceLE, Int.reduceAdd, Int.reduceSub, Int.reduceMul, kAgg, scD, List.all_cons, List.all_nil]
      refine guardB.mk (fun h => ?_) (fun h => ?_) <;> simp only [h, nums, rowsS, nodes, zv, bv, sv, nv, VL, VB, BEq.rfl, V1, V2, V3, V4, V5, V6, V7, V8, V9, V10, V11, V12, V13, V14, VE, Nat.reduceBEq, Nat.reduceAdd, Nat.reduceSub, Nat.reduceMul, Nat.reduceLeDiff, Nat.reduceLT, Nat.reduceEqDiff, Int.reduceBEq, Int.reduceBNe, Int.reduceLT, Int.reduceLE, Int.reduceAdd, Int.reduceSub, Int.reduceMul, kAgg, scD, List.all_cons, List.all_nil]
      · have h : l ≠ [] := by simpa using h
        have hpos := List.length_pos_iff.2 h
        have hlt : (i * n + k) % l.length < l.length := Nat.mod_lt _ hpos
        rw [if_neg h] at hx
        obtain ⟨j, hj⟩ : ∃ j, (i * n + k) % l.length = j := ⟨_, rfl⟩
        rw [hj] at hm2 hlt hx
        have hgj := getD_u8 l j hlt
        have hq256 := (by assumption : ∀ i, l.getD i 0 < 256) j
        rw [hx] at hgj hq256
        simp only [hw4, hw5, hm2, hgj, u8E_def, nums, rowsS, nodes, zv, bv, sv, nv, VL, VB, BEq.rfl, V1, V2, V3, V4, V5, V6, V7, V8, V9, V10, V11, V12, V13, V14, VE, Nat.reduceBEq, Nat.reduceAdd, Nat.reduceSub, Nat.reduceMul, Nat.reduceLeDiff, Nat.reduceLT, Nat.reduceEqDiff, Int.reduceBEq, Int.reduceBNe, Int.reduceLT, Int.reduceLE, Int.reduceAdd, Int.reduceSub, Int.reduceMul, kAgg, scD, List.all_cons, List.all_nil]
        refine ⟨by omega, ⟨Int.natCast_nonneg j, hlt⟩, by decide, ?_⟩
        have hm5 : Int.tmod (x : Int) 5 = ((x % 5 : Nat) : Int) := tmodN x 5
        have hm7 : Int.tmod (x : Int) 7 = ((x % 7 : Nat) : Int) := tmodN x 7
        have hw6 : IntKind.i64.wrap ((x % 5 : Nat) : Int) = ((x % 5 : Nat) : Int) := wrap_in (by omega) (by omega)
        have e6 : (((x % 7 : Nat) : Int) == 6) = decide (x % 7 = 6) := by rw [int_beq]; congr 1; exact propext ⟨fun h => by omega, fun h => by omega⟩
        simp only [hm5, hw6, nums, rowsS, nodes, zv, bv, sv, nv, VL, VB, BEq.rfl, V1, V2, V3, V4, V5, V6, V7, V8, V9, V10, V11, V12, V13, V14, VE, Nat.reduceBEq, Nat.reduceAdd, Nat.reduceSub, Nat.reduceMul, Nat.reduceLeDiff, Nat.reduceLT, Nat.reduceEqDiff, Int.reduceBEq, Int.reduceBNe, Int.reduceLT, Int.reduceLE, Int.reduceAdd, Int.reduceSub, Int.reduceMul, kAgg, scD, List.all_cons, List.all_nil]
        refine guardB.mk (fun h => ?_) (fun h => ?_)
        · subst h
          simp only [hm5, hm7, hw6, e6, nums, rowsS, nodes, zv, bv, sv, nv, VL, VB, BEq.rfl, V1, V2, V3, V4, V5, V6, V7, V8, V9, V10, V11, V12, V13, V14, VE, Nat.reduceBEq, Nat.reduceAdd, Nat.reduceSub, Nat.reduceMul, Nat.reduceLeDiff, Nat.reduceLT, Nat.reduceEqDiff, Int.reduceBEq, Int.reduceBNe, Int.reduceLT, Int.reduceLE, Int.reduceAdd, Int.reduceSub, Int.reduceMul, kAgg, scD, List.all_cons, List.all_nil]
          refine ⟨by decide, ?_⟩
          refine guardB.mk (fun h => ?_) (fun h => ?_) <;> simp only [h, nums, rowsS, nodes, zv, bv, sv, nv, VL, VB, BEq.rfl, V1, V2, V3, V4, V5, V6, V7, V8, V9, V10, V11, V12, V13, V14, VE, Nat.reduceBEq, Nat.reduceAdd, Nat.reduceSub, Nat.reduceMul, Nat.reduceLeDiff, Nat.reduceLT, Nat.reduceEqDiff, Int.reduceBEq, Int.reduceBNe, Int.reduceLT, Int.reduceLE, Int.reduceAdd, Int.reduceSub, Int.reduceMul, kAgg, scD, List.all_cons, List.all_nil]
          · have h7 : x % 7 = 6 := by simpa using h
            rw [if_pos ⟨rfl, h7⟩] at hcn
            simp only [← hcn, hrl, nums, rowsS, nodes, zv, bv, sv, nv, VL, VB, BEq.rfl, V1, V2, V3, V4, V5, V6, V7, V8, V9, V10, V11, V12, V13, V14, VE, Nat.reduceBEq, Nat.reduceAdd, Nat.reduceSub, Nat.reduceMul, Nat.reduceLeDiff, Nat.reduceLT, Nat.reduceEqDiff, Int.reduceBEq, Int.reduceBNe, Int.reduceLT, Int.reduceLE, Int.reduceAdd, Int.reduceSub, Int.reduceMul, kAgg, scD, List.all_cons, List.all_nil]
            refine ⟨⟨by omega, allLen_num [costN n l _ i k]⟩, ?_⟩
            simp only [wrap_nat (k := k) (by omega), nums, rowsS, nodes, zv, bv, sv, nv, VL, VB, BEq.rfl, V1, V2, V3, V4, V5, V6, V7, V8, V9, V10, V11, V12, V13, V14, VE, Nat.reduceBEq, Nat.reduceAdd, Nat.reduceSub, Nat.reduceMul, Nat.reduceLeDiff, Nat.reduceLT, Nat.reduceEqDiff, Int.reduceBEq, Int.reduceBNe, Int.reduceLT, Int.reduceLE, Int.reduceAdd, Int.reduceSub, Int.reduceMul, kAgg, scD, List.all_cons, List.all_nil]
            refine ⟨k + 1, Enter.id ?_, by omega, by show n - (k + 1) < n - k; omega⟩
            simp only [hrs, List.map_append, num_def, nums, rowsS, nodes, zv, bv, sv, nv, VL, VB, BEq.rfl, V1, V2, V3, V4, V5, V6, V7, V8, V9, V10, V11, V12, V13, V14, VE, Nat.reduceBEq, Nat.reduceAdd, Nat.reduceSub, Nat.reduceMul, Nat.reduceLeDiff, Nat.reduceLT, Nat.reduceEqDiff, Int.reduceBEq, Int.reduceBNe, Int.reduceLT, Int.reduceLE, Int.reduceAdd, Int.reduceSub, Int.reduceMul, kAgg, scD, List.all_cons, List.all_nil]
          · have h7 : ¬ x % 7 = 6 := by simpa using h
            rw [if_neg (fun e => h7 e.2)] at hcn
            simp only [← hcn, hrl, nums, rowsS, nodes, zv, bv, sv, nv, VL, VB, BEq.rfl, V1, V2, V3, V4, V5, V6, V7, V8, V9, V10, V11, V12, V13, V14, VE, Nat.reduceBEq, Nat.reduceAdd, Nat.reduceSub, Nat.reduceMul, Nat.reduceLeDiff, Nat.reduceLT, Nat.reduceEqDiff, Int.reduceBEq, Int.reduceBNe, Int.reduceLT, Int.reduceLE, Int.reduceAdd, Int.reduceSub, Int.reduceMul, kAgg, scD, List.all_cons, List.all_nil]
            refine ⟨⟨by omega, allLen_num [costN n l _ i k]⟩, ?_⟩
            simp only [wrap_nat (k := k) (by omega), nums, rowsS, nodes, zv, bv, sv, nv, VL, VB, BEq.rfl, V1, V2, V3, V4, V5, V6, V7, V8, V9, V10, V11, V12, V13, V14, VE, Nat.reduceBEq, Nat.reduceAdd, Nat.reduceSub, Nat.reduceMul, Nat.reduceLeDiff, Nat.reduceLT, Nat.reduceEqDiff, Int.reduceBEq, Int.reduceBNe, Int.reduceLT, Int.reduceLE, Int.reduceAdd, Int.reduceSub, Int.reduceMul, kAgg, scD, List.all_cons, List.all_nil]
            refine ⟨k + 1, Enter.id ?_, by omega, by show n - (k + 1) < n - k; omega⟩
            simp only [hrs, List.map_append, num_def, nums, rowsS, nodes, zv, bv, sv, nv, VL, VB, BEq.rfl, V1, V2, V3, V4, V5, V6, V7, V8, V9, V10, V11, V12, V13, V14, VE, Nat.reduceBEq, Nat.reduceAdd, Nat.reduceSub, Nat.reduceMul, Nat.reduceLeDiff, Nat.reduceLT, Nat.reduceEqDiff, Int.reduceBEq, Int.reduceBNe, Int.reduceLT, Int.reduceLE, Int.reduceAdd, Int.reduceSub, Int.reduceMul, kAgg, scD, List.all_cons, List.all_nil]
        · subst h
          simp only [hm5, hw6, nums, rowsS, nodes, zv, bv, sv, nv, VL, VB, BEq.rfl, V1, V2, V3, V4, V5, V6, V7, V8, V9, V10, V11, V12, V13, V14, VE, Nat.reduceBEq, Nat.reduceAdd, Nat.reduceSub, Nat.reduceMul, Nat.reduceLeDiff, Nat.reduceLT, Nat.reduceEqDiff, Int.reduceBEq, Int.reduceBNe, Int.reduceLT, Int.reduceLE, Int.reduceAdd, Int.reduceSub, Int.reduceMul, kAgg, scD, List.all_cons, List.all_nil]
          rw [if_neg (fun e => by cases e.1)] at hcn
          simp only [← hcn, hrl, nums, rowsS, nodes, zv, bv, sv, nv, VL, VB, BEq.rfl, V1, V2, V3, V4, V5, V6, V7, V8, V9, V10, V11, V12, V13, V14, VE, Nat.reduceBEq, Nat.reduceAdd, Nat.reduceSub, Nat.reduceMul, Nat.reduceLeDiff, Nat.reduceLT, Nat.reduceEqDiff, Int.reduceBEq, Int.reduceBNe, Int.reduceLT, Int.reduceLE, Int.reduceAdd, Int.reduceSub, Int.reduceMul, kAgg, scD, List.all_cons, List.all_nil]
          refine ⟨⟨by omega, allLen_num [costN n l _ i k]⟩, ?_⟩
          simp only [wrap_nat (k := k) (by omega), nums, rowsS, nodes, zv, bv, sv, nv, VL, VB, BEq.rfl, V1, V2, V3, V4, V5, V6, V7, V8, V9, V10, V11, V12, V13, V14, VE, Nat.reduceBEq, Nat.reduceAdd, Nat.reduceSub, Nat.reduceMul, Nat.reduceLeDiff, Nat.reduceLT, Nat.reduceEqDiff, Int.reduceBEq, Int.reduceBNe, Int.reduceLT, Int.reduceLE, Int.reduceAdd, Int.reduceSub, Int.reduceMul, kAgg, scD, List.all_cons, List.all_nil]
          refine ⟨k + 1, Enter.id ?_, by omega, by show n - (k + 1) < n - k; omega⟩
          simp only [hrs, List.map_append, num_def, nums, rowsS, nodes, zv, bv, sv, nv, VL, VB, BEq.rfl, V1, V2, V3, V4, V5, V6, V7, V8, V9, V10, V11, V12, V13, V14, VE, Nat.reduceBEq, Nat.reduceAdd, Nat.reduceSub, Nat.reduceMul, Nat.reduceLeDiff, Nat.reduceLT, Nat.reduceEqDiff, Int.reduceBEq, Int.reduceBNe, Int.reduceLT, Int.reduceLE, Int.reduceAdd, Int.reduceSub, Int.reduceMul, kAgg, scD, List.all_cons, List.all_nil]
      · have h : l = [] := by simpa using h
        rw [if_pos h] at hx
        have hq256 : x < 256 := by omega
        simp only [hx]
        refine ⟨by decide, ?_⟩
        have hm5 : Int.tmod (x : Int) 5 = ((x % 5 : Nat) : Int) := tmodN x 5
        have hm7 : Int.tmod (x : Int) 7 = ((x % 7 : Nat) : Int) := tmodN x 7
        have hw6 : IntKind.i64.wrap ((x % 5 : Nat) : Int) = ((x % 5 : Nat) : Int) := wrap_in (by omega) (by omega)
        have e6 : (((x % 7 : Nat) : Int) == 6) = decide (x % 7 = 6) := by rw [int_beq]; congr 1; exact propext ⟨fun h => by omega, fun h => by omega⟩
        simp only [hm5, hw6, nums, rowsS, nodes, zv, bv, sv, nv, VL, VB, BEq.rfl, V1, V2, V3, V4, V5, V6, V7, V8, V9, V10, V11, V12, V13, V14, VE, Nat.reduceBEq, Nat.reduceAdd, Nat.reduceSub, Nat.reduceMul, Nat.reduceLeDiff, Nat.reduceLT, Nat.reduceEqDiff, Int.reduceBEq, Int.reduceBNe, Int.reduceLT, Int.reduceLE, Int.reduceAdd, Int.reduceSub, Int.reduceMul, kAgg, scD, List.all_cons, List.all_nil]
        refine guardB.mk (fun h => ?_) (fun h => ?_)
        · subst h
          simp only [hm5, hm7, hw6, e6, nums, rowsS, nodes, zv, bv, sv, nv, VL, VB, BEq.rfl, V1, V2, V3, V4, V5, V6, V7, V8, V9, V10, V11, V12, V13, V14, VE, Nat.reduceBEq, Nat.reduceAdd, Nat.reduceSub, Nat.reduceMul, Nat.reduceLeDiff, Nat.reduceLT, Nat.reduceEqDiff, Int.reduceBEq, Int.reduceBNe, Int.reduceLT, Int.reduceLE, Int.reduceAdd, Int.reduceSub, Int.reduceMul, kAgg, scD, List.all_cons, List.all_nil]
          refine ⟨by decide, ?_⟩
          refine guardB.mk (fun h => ?_) (fun h => ?_) <;> simp only [h, nums, rowsS, nodes, zv, bv, sv, nv, VL, VB, BEq.rfl, V1, V2, V3, V4, V5, V6, V7, V8, V9, V10, V11, V12, V13, V14, VE, Nat.reduceBEq, Nat.reduceAdd, Nat.reduceSub, Nat.reduceMul, Nat.reduceLeDiff, Nat.reduceLT, Nat.reduceEqDiff, Int.reduceBEq, Int.reduceBNe, Int.reduceLT, Int.reduceLE, Int.reduceAdd, Int.reduceSub, Int.reduceMul, kAgg, scD, List.all_cons, List.all_nil]
          · have h7 : x % 7 = 6 := by simpa using h
            rw [if_pos ⟨rfl, h7⟩] at hcn
            simp only [← hcn, hrl, nums, rowsS, nodes, zv, bv, sv, nv, VL, VB, BEq.rfl, V1, V2, V3, V4, V5, V6, V7, V8, V9, V10, V11, V12, V13, V14, VE, Nat.reduceBEq, Nat.reduceAdd, Nat.reduceSub, Nat.reduceMul, Nat.reduceLeDiff, Nat.reduceLT, Nat.reduceEqDiff, Int.reduceBEq, Int.reduceBNe, Int.reduceLT, Int.reduceLE, Int.reduceAdd, Int.reduceSub, Int.reduceMul, kAgg, scD, List.all_cons, List.all_nil]
            refine ⟨⟨by omega, allLen_num [costN n l _ i k]⟩, ?_⟩
            simp only [wrap_nat (k := k) (by omega), nums, rowsS, nodes, zv, bv, sv, nv, VL, VB, BEq.rfl, V1, V2, V3, V4, V5, V6, V7, V8, V9, V10, V11, V12, V13, V14, VE, Nat.reduceBEq, Nat.reduceAdd, Nat.reduceSub, Nat.reduceMul, Nat.reduceLeDiff, Nat.reduceLT, Nat.reduceEqDiff, Int.reduceBEq, Int.reduceBNe, Int.reduceLT, Int.reduceLE, Int.reduceAdd, Int.reduceSub, Int.reduceMul, kAgg, scD, List.all_cons, List.all_nil]
            refine ⟨k + 1, Enter.id ?_, by omega, by show n - (k + 1) < n - k; omega⟩
            simp only [hrs, List.map_append, num_def, nums, rowsS, nodes, zv, bv, sv, nv, VL, VB, BEq.rfl, V1, V2, V3, V4, V5, V6, V7, V8, V9, V10, V11, V12, V13, V14, VE, Nat.reduceBEq, Nat.reduceAdd, Nat.reduceSub, Nat.reduceMul, Nat.reduceLeDiff, Nat.reduceLT, Nat.reduceEqDiff, Int.reduceBEq, Int.reduceBNe, Int.reduceLT, Int.reduceLE, Int.reduceAdd, Int.reduceSub, Int.reduceMul, kAgg, scD, List.all_cons, List.all_nil]
          · have h7 : ¬ x % 7 = 6 := by simpa using h
            rw [if_neg (fun e => h7 e.2)] at hcn
            simp only [← hcn, hrl, nums, rowsS, nodes, zv, bv, sv, nv, VL, VB, BEq.rfl, V1, V2, V3, V4, V5, V6, V7, V8, V9, V10, V11, V12, V13, V14, VE, Nat.reduceBEq, Nat.reduceAdd, Nat.reduceSub, Nat.reduceMul, Nat.reduceLeDiff, Nat.reduceLT, Nat.reduceEqDiff, Int.reduceBEq, Int.reduceBNe, Int.reduceLT, Int.reduceLE, Int.reduceAdd, Int.reduceSub, Int.reduceMul, kAgg, scD, List.all_cons, List.all_nil]
            refine ⟨⟨by omega, allLen_num [costN n l _ i k]⟩, ?_⟩
            simp only [wrap_nat (k := k) (by omega), nums, rowsS, nodes, zv, bv, sv, nv, VL, VB, BEq.rfl, V1, V2, V3, V4, V5, V6, V7, V8, V9, V10, V11, V12, V13, V14, VE, Nat.reduceBEq, Nat.reduceAdd, Nat.reduceSub, Nat.reduceMul, Nat.reduceLeDiff, Nat.reduceLT, Nat.reduceEqDiff, Int.reduceBEq, Int.reduceBNe, Int.reduceLT, Int.reduceLE, Int.reduceAdd, Int.reduceSub, Int.reduceMul, kAgg, scD, List.all_cons, List.all_nil]
            refine ⟨k + 1, Enter.id ?_, by omega, by show n - (k + 1) < n - k; omega⟩
            simp only [hrs, List.map_append, num_def, nums, rowsS, nodes, zv, bv, sv, nv, VL, VB, BEq.rfl, V1, V2, V3, V4, V5, V6, V7, V8, V9, V10, V11, V12, V13, V14, VE, Nat.reduceBEq, Nat.reduceAdd, Nat.reduceSub, Nat.reduceMul, Nat.reduceLeDiff, Nat.reduceLT, Nat.reduceEqDiff, Int.reduceBEq, Int.reduceBNe, Int.reduceLT, Int.reduceLE, Int.reduceAdd, Int.reduceSub, Int.reduceMul, kAgg, scD, List.all_cons, List.all_nil]
        · subst h
          simp only [hm5, hw6, nums, rowsS, nodes, zv, bv, sv, nv, VL, VB, BEq.rfl, V1, V2, V3, V4, V5, V6, V7, V8, V9, V10, V11, V12, V13, V14, VE, Nat.reduceBEq, Nat.reduceAdd, Nat.reduceSub, Nat.reduceMul, Nat.reduceLeDiff, Nat.reduceLT, Nat.reduceEqDiff, Int.reduceBEq, Int.reduceBNe, Int.reduceLT, Int.reduceLE, Int.reduceAdd, Int.reduceSub, Int.reduceMul, kAgg, scD, List.all_cons, List.all_nil]
          rw [if_neg (fun e => by cases e.1)] at hcn
          simp only [← hcn, hrl, nums, rowsS, nodes, zv, bv, sv, nv, VL, VB, BEq.rfl, V1, V2, V3, V4, V5, V6, V7, V8, V9, V10, V11, V12, V13, V14, VE, Nat.reduceBEq, Nat.reduceAdd, Nat.reduceSub, Nat.reduceMul, Nat.reduceLeDiff, Nat.reduceLT, Nat.reduceEqDiff, Int.reduceBEq, Int.reduceBNe, Int.reduceLT, Int.reduceLE, Int.reduceAdd, Int.reduceSub, Int.reduceMul, kAgg, scD, List.all_cons, List.all_nil]
          refine ⟨⟨by omega, allLen_num [costN n l _ i k]⟩, ?_⟩
          simp only [wrap_nat (k := k) (by omega), nums, rowsS, nodes, zv, bv, sv, nv, VL, VB, BEq.rfl, V1, V2, V3, V4, V5, V6, V7, V8, V9, V10, V11, V12, V13, V14, VE, Nat.reduceBEq, Nat.reduceAdd, Nat.reduceSub, Nat.reduceMul, Nat.reduceLeDiff, Nat.reduceLT, Nat.reduceEqDiff, Int.reduceBEq, Int.reduceBNe, Int.reduceLT, Int.reduceLE, Int.reduceAdd, Int.reduceSub, Int.reduceMul, kAgg, scD, List.all_cons, List.all_nil]
          refine ⟨k + 1, Enter.id ?_, by omega, by show n - (k + 1) < n - k; omega⟩
          simp only [hrs, List.map_append, num_def, nums, rowsS, nodes, zv, bv, sv, nv, VL, VB, BEq.rfl, V1, V2, V3, V4, V5, V6, V7, V8, V9, V10, V11, V12, V13, V14, VE, Nat.reduceBEq, Nat.reduceAdd, Nat.reduceSub, Nat.reduceMul, Nat.reduceLeDiff, Nat.reduceLT, Nat.reduceEqDiff, Int.reduceBEq, Int.reduceBNe, Int.reduceLT, Int.reduceLE, Int.reduceAdd, Int.reduceSub, Int.reduceMul, kAgg, scD, List.all_cons, List.all_nil]
    · have hk' : k = n := by
        have : ¬ k < n := by simpa using h
        omega
      subst hk'
      simp only [wrap_nat (k := i) (by omega), hsl, nums, rowsS, nodes, zv, bv, sv, nv, VL, VB, BEq.rfl, V1, V2, V3, V4, V5, V6, V7, V8, V9, V10, V11, V12, V13, V14, VE, Nat.reduceBEq, Nat.reduceAdd, Nat.reduceSub, Nat.reduceMul, Nat.reduceLeDiff, Nat.reduceLT, Nat.reduceEqDiff, Int.reduceBEq, Int.reduceBNe, Int.reduceLT, Int.reduceLE, Int.reduceAdd, Int.reduceSub, Int.reduceMul, kAgg, scD, List.all_cons, List.all_nil]
      refine ⟨by omega, i + 1, Enter.id ?_, by omega, by show k - (i + 1) < k - i; omega⟩
      simp only [hss, nums, rowsS, nodes, zv, bv, sv, nv, VL, VB, BEq.rfl, V1, V2, V3, V4, V5, V6, V7, V8, V9, V10, V11, V12, V13, V14, VE, Nat.reduceBEq, Nat.reduceAdd, Nat.reduceSub, Nat.reduceMul, Nat.reduceLeDiff, Nat.reduceLT, Nat.reduceEqDiff, Int.reduceBEq, Int.reduceBNe, Int.reduceLT, Int.reduceLE, Int.reduceAdd, Int.reduceSub, Int.reduceMul, kAgg, scD, List.all_cons, List.all_nil]
  · have hi' : i = n := by
      have : ¬ i < n := by simpa using h
      omega
    subst hi'
    simp only [nums, rowsS, nodes, zv, bv, sv, nv, VL, VB, BEq.rfl, V1, V2, V3, V4, V5, V6, V7, V8, V9, V10, V11, V12, V13, V14, VE, Nat.reduceBEq, Nat.reduceAdd, Nat.reduceSub, Nat.reduceMul, Nat.reduceLeDiff, Nat.reduceLT, Nat.reduceEqDiff, Int.reduceBEq, Int.reduceBNe, Int.reduceLT, Int.reduceLE, Int.reduceAdd, Int.reduceSub, Int.reduceMul, kAgg, scD, List.all_cons, List.all_nil]
    refine Enter.mk [] [] [(900, 1000)] ?_
    simp only [nums, rowsS, nodes, zv, bv, sv, nv, VL, VB, BEq.rfl, V1, V2, V3, V4, V5, V6, V7, V8, V9, V10, V11, V12, V13, V14, VE, Nat.reduceBEq, Nat.reduceAdd, Nat.reduceSub, Nat.reduceMul, Nat.reduceLeDiff, Nat.reduceLT, Nat.reduceEqDiff, Int.reduceBEq, Int.reduceBNe, Int.reduceLT, Int.reduceLE, Int.reduceAdd, Int.reduceSub, Int.reduceMul, kAgg, scD, List.all_cons, List.all_nil]

end Go.Cp
end

section
set_option linter.unusedVariables false
set_option linter.unusedSimpArgs false
set_option maxHeartbeats 4000000
set_option maxRecDepth 10000
namespace Go.Cp
open Go Go.Proofs Go.Vx

theorem getD_of {α : Type} (z : α) (l : List α) (k : Nat) (h : k < l.length) : l.getD k z = l[k] := by simp [List.getD, h]
theorem cost_bds (n : Nat) (l : List Nat) (imp : Bool) (i k : Nat) : -1 ≤ costN n l imp i k ∧ costN n l imp i k ≤ 4 := by
  have hcn : costN n l imp i k = if imp = true ∧ (if l = [] then 3 * i * k % 256 else l.getD ((i * n + k) % l.length) 0) % 7 = 6 then -1 else (((if l = [] then 3 * i * k % 256 else l.getD ((i * n + k) % l.length) 0) % 5 : Nat) : Int) := rfl
  rw [hcn]
  split <;> omega
theorem square_okM (n : Nat) (l : List Nat) (imp : Bool) (hn : 0 < n) (hn2 : n ≤ 12) : okM (squareT n l imp n) = true := by
  rw [okM, squareT_len]
  simp only [Bool.and_eq_true, decide_eq_true_eq, List.all_eq_true]
  refine ⟨hn, hn2, fun r hr => ?_⟩
  obtain ⟨i, _, rfl⟩ := List.mem_map.1 hr
  rw [okRow, squareR_len]
  simp only [Bool.and_eq_true, decide_eq_true_eq, List.all_eq_true]
  refine ⟨trivial, fun x hx => ?_⟩
  obtain ⟨k, _, rfl⟩ := List.mem_map.1 hx
  have := cost_bds n l imp i k
  simp only [okX, Bool.and_eq_true, decide_eq_true_eq]
  omega
theorem check_of {t : List Node} {m : List (List Int)} {st : List Int} (ht : okTree t = true) (hm : okM m = true) (hl : st.length = (leavesOf t).length) (hs : ∀ k, k < st.length → -1 ≤ st.getD k 0 ∧ st.getD k 0 < m.length) : checkE t m st = 0 := by
  have : st.all (okS m.length) = true := by
    rw [List.all_eq_true]
    intro x hx
    obtain ⟨k, hk, rfl⟩ := List.mem_iff_getElem.1 hx
    have := hs k hk
    rw [getD_of 0 st k hk] at this
    simp only [okS, Bool.and_eq_true, decide_eq_true_eq]
    exact this
  rw [checkE, ht, hm, this, decide_eq_true hl]; rfl
theorem knownN_bd (n : Nat) (l : List Nat) (k : Nat) (hn : 0 < n) : -1 ≤ knownN n l k ∧ knownN n l k < n := by
  rw [knownN]
  split
  · have := Nat.mod_lt k hn; omega
  · have := Nat.mod_lt (l.getD (k % l.length) 0) (show 0 < n + 1 by omega); omega
theorem known_at {n : Nat} {l : List Nat} {k j : Nat} (h : j < k) : (knownL n l k).getD j 0 = knownN n l j := by simp [knownL, List.getD, h]
abbrev treeD (ps : List Nat) : List Node := grownTo ps (min ps.length 62)
abbrev matD (n : Nat) (cs : List Nat) : List (List Int) := squareT n cs true n
abbrev wantD (n : Nat) (ps ss : List Nat) : List Int := knownL n ss (leavesOf (treeD ps)).length
theorem treeD_ok (ps : List Nat) : okTree (treeD ps) = true := grown_okTree ps (by omega)
theorem treeD_small (ps : List Nat) : Small (treeD ps) := grown_small ps (by omega)
theorem drawn_check (n : Nat) (ps cs ss : List Nat) (hn : 0 < n) (hn2 : n ≤ 12) : checkE (treeD ps) (matD n cs) (wantD n ps ss) = 0 :=
  check_of (treeD_ok ps) (square_okM n cs true hn hn2) (knownL_len _ _ _) fun k hk => by
    rw [knownL_len] at hk
    rw [known_at hk, squareT_len]
    exact knownN_bd n ss k hn
theorem leaves_pos {t : List Node} (ht : okTree t = true) : 0 < (leavesOf t).length := by
  have h := okTree_len ht
  have hk : kids t ((t.length - 1 : Nat) : Int) = [] := by
    rw [kids_nil]
    intro u hu e
    by_cases h0 : u = 0
    · rw [h0, okTree_root ht] at e; omega
    · have := okTree_par ht hu (by omega); omega
  rw [leavesOf, show t.length = (t.length - 1) + 1 by omega, leavesTo_succ, if_pos hk]
  simp

/-- what the leaves say: -1 for whatever -/
theorem ini_zero {t : List Node} {m : List (List Int)} {st : List Int} {v s : Nat} (hs : s < m.length) : iniF t m st v s = 0 ↔ ∀ k, k < (leavesOf t).length → ((leavesOf t).getD k 0).toNat = v → st.getD k 0 = -1 ∨ st.getD k 0 = (s : Int) := by
  have h := ini_val (leavesOf t) st m.length v s hs (leavesOf t).length
  show ini (leavesOf t) st m.length (leavesOf t).length v s = 0 ↔ _
  rw [h]
  constructor
  · intro e k hk hv
    by_cases hc : (List.range (leavesOf t).length).all (fun j => !decide (((leavesOf t).getD j 0).toNat = v ∧ st.getD j 0 ≠ -1 ∧ st.getD j 0 ≠ (s : Int))) = true
    · rw [List.all_eq_true] at hc
      have := hc k (by simpa using hk)
      simp only [Bool.not_eq_true', decide_eq_false_iff_not] at this
      by_cases h1 : st.getD k 0 = -1
      · exact .inl h1
      · exact .inr (Decidable.byContradiction fun e => this ⟨hv, h1, e⟩)
    · rw [if_neg hc] at e; omega
  · intro hh
    rw [if_pos]
    rw [List.all_eq_true]
    intro j hj
    simp only [Bool.not_eq_true', decide_eq_false_iff_not]
    rintro ⟨a, b, c⟩
    rcases hh j (by simpa using hj) a with e | e
    · exact b e
    · exact c e
theorem ini_free {t : List Node} {m : List (List Int)} {v s : Nat} (hs : s < m.length) {k : Nat} : iniF t m (List.replicate k (-1)) v s = 0 ∨ k < (leavesOf t).length := by
  by_cases h : k < (leavesOf t).length
  · exact .inr h
  · refine .inl ((ini_zero hs).2 fun j hj _ => .inl ?_)
    simp [List.getD, show j < k by omega]
theorem Asg.mono {t : List Node} {m : List (List Int)} {st st' all : List Int} (h : Asg t m st all) (hs : ∀ k, k < (leavesOf t).length → st'.getD k 0 = -1 ∨ st'.getD k 0 = st.getD k 0) : Asg t m st' all := by
  refine ⟨h.len, h.bd, fun v hv => ?_, h.can⟩
  have hb : aOf all v < m.length := by have := h.bd v hv; rw [aOf]; omega
  have hf := (ini_zero hb).1 (h.fit v hv)
  refine (ini_zero hb).2 fun k hk e => ?_
  rcases hs k hk with e' | e'
  · exact .inl e'
  · rw [e']; exact hf k hk e
theorem min_mono {t : List Node} {m : List (List Int)} {st st' : List Int} (hc : checkE t m st' = 0) (he : errP t m st = 0) (hs : ∀ k, k < (leavesOf t).length → st'.getD k 0 = -1 ∨ st'.getD k 0 = st.getD k 0) : errP t m st' = 0 ∧ minV t m st' ≤ minV t m st := by
  obtain ⟨h1, h2, _⟩ := opt_best he
  obtain ⟨h3, h4, _⟩ := opt_lower hc (h1.mono hs)
  exact ⟨h3, by omega⟩
theorem cost_const {t : List Node} {m : List (List Int)} {all : List Int} {s : Nat} {d : Int} (h : ∀ v, 0 < v → v < t.length → xAt t m all v = d) : ∀ k, k ≤ t.length - 1 → costTo t m all k = k * d
  | 0, _ => by simp [costTo]
  | k + 1, hk => by
    rw [costTo, cost_const (s := s) h k (by omega), h (k + 1) (by omega) (by omega), Int.natCast_add, Int.add_mul]; simp
theorem rep_at {n : Nat} {x : Int} {v : Nat} (h : v < n) : (List.replicate n x).getD v 0 = x := by simp [List.getD, h]
/-- all nodes have the same state -/
theorem const_min {t : List Node} {m : List (List Int)} {k s : Nat} (hc : checkE t m (List.replicate k (-1)) = 0) (hs : s < m.length) (hd : 0 ≤ cellAt m s s) : errP t m (List.replicate k (-1)) = 0 ∧ minV t m (List.replicate k (-1)) ≤ cellAt m s s * ((t.length : Int) - 1) := by
  have g := good_of hc
  have hn0 := g.n0
  have hx : ∀ v, 0 < v → v < t.length → xAt t m (List.replicate t.length (s : Int)) v = cellAt m s s := fun v h0 hv => by
    rw [xAt, rep_at hv, rep_at (by have := (g.par v h0 hv).1; omega)]; rfl
  have ha : Asg t m (List.replicate k (-1)) (List.replicate t.length (s : Int)) := by
    refine ⟨by simp, fun v hv => by rw [rep_at hv]; omega, fun v hv => ?_, fun v h0 hv => by rw [hx v h0 hv]; omega⟩
    have e : aOf (List.replicate t.length (s : Int)) v = s := by rw [aOf, rep_at hv]; rfl
    rw [e]
    refine (ini_zero hs).2 fun j hj _ => .inl (rep_at ?_)
    have := g.len
    rw [List.length_replicate] at this
    omega
  obtain ⟨h1, h2, _⟩ := opt_lower hc ha
  rw [cost_const (s := s) hx _ (Nat.le_refl _)] at h2
  refine ⟨h1, ?_⟩
  rw [Int.mul_comm]
  have : ((t.length - 1 : Nat) : Int) = (t.length : Int) - 1 := by omega
  rw [← this]; exact h2
theorem err_cases {t : List Node} {m : List (List Int)} {st : List Int} (hc : checkE t m st = 0) : errP t m st = 0 ∨ errP t m st = 5 := by
  rw [errP, if_pos hc]
  split
  · exact .inr rfl
  · exact .inl rfl

/-! typed arguments -/
theorem typed_u8 {m : Nat} {x : List D} (h : Typed Try.prog (m + 1) 5 x) : ∃ n : Nat, x = u8E n ∧ n < 256 := by
  simp only [Typed, Try.underlying5, TypedK] at h
  obtain ⟨n, rfl, hn⟩ := h
  have h1 : 0 ≤ n ∧ n < 256 := by
    simp [Lit.wf, IntKind.min, IntKind.max, IntKind.bits, IntKind.signed] at hn
    omega
  exact ⟨n.toNat, by rw [u8E, Int.toNat_of_nonneg h1.1], by omega⟩
theorem typed_bytes {m : Nat} {x : List D} (h : Typed Try.prog (m + 2) 22 x) : ∃ l : List Nat, x = [bytesD l] ∧ (∀ i, l.getD i 0 < 256) ∧ l.length ≤ 9223372036854775807 := by
  unfold Typed at h
  rw [Try.underlying22] at h
  obtain ⟨xs, rfl, hx, hl⟩ := h
  obtain ⟨l, rfl, hr⟩ := list_of (fun x hx => typed_u8 hx) xs hx
  rw [List.length_map] at hl
  refine ⟨l, rfl, fun i => ?_, hl⟩
  by_cases h : i < l.length
  · rw [getD_of 0 l i h]; exact hr _ (List.getElem_mem h)
  · rw [List.getD, List.getElem?_eq_none (by omega)]; decide
theorem typed_byte {m : Nat} {x : List D} (h : Typed Try.prog (m + 1) 5 x) : ∃ n : Nat, x = [.sc (.int .u8 n)] ∧ n < 256 := typed_u8 h

end Go.Cp
end

section
set_option linter.unusedVariables false
set_option linter.unusedSimpArgs false
set_option maxHeartbeats 4000000
set_option maxRecDepth 10000
namespace Go.Cp
open Go Go.Proofs Go.Vx

theorem check_zeroA {t : List Node} {m : List (List Int)} {all : List Int} (ht : okTree t = true) (hm : okM m = true) (hl : all.length = t.length) (hb : ∀ v, v < t.length → 0 ≤ all.getD v 0 ∧ all.getD v 0 < m.length) : checkA t m all = 0 := by
  have h1 : errC t all (!okM m) = 0 := by rw [errC, ht, hm, decide_eq_true hl]; rfl
  have h2 : all.all (okA m.length) = true := by
    rw [List.all_eq_true]
    intro x hx
    obtain ⟨k, hk, rfl⟩ := List.mem_iff_getElem.1 hx
    have := hb k (by omega)
    rw [getD_of 0 all k hk] at this
    simp only [okA, Bool.and_eq_true, decide_eq_true_eq]
    exact this
  rw [checkA, if_pos h1, h2]; rfl
theorem can_iff {t : List Node} {m : List (List Int)} {all : List Int} : canTo t m all (t.length - 1) = true ↔ ∀ v, 0 < v → v < t.length → xAt t m all v ≠ -1 := by
  rw [canTo, List.all_eq_true]
  constructor
  · intro h v h0 hv
    have := h (v - 1) (by simp; omega)
    rw [show v - 1 + 1 = v by omega] at this
    simpa using this
  · intro h j hj
    have hj : j < t.length - 1 := by simpa using hj
    simpa using h (j + 1) (by omega) (by omega)
/-- the cost is there, or there is none -/
theorem cost_cases {t : List Node} {m : List (List Int)} {st all : List Int} (hc : checkE t m st = 0) (hl : all.length = t.length) (hb : ∀ v, v < t.length → 0 ≤ all.getD v 0 ∧ all.getD v 0 < m.length) (hf : ∀ v, v < t.length → iniF t m st v (aOf all v) = 0) :
    (errV t m all = 0 ∧ costV t m all = costTo t m all (t.length - 1) ∧ Asg t m st all) ∨ (errV t m all = 5 ∧ costV t m all = 0) := by
  obtain ⟨ht, hm, _, _⟩ := checkE_zero hc
  have hz := check_zeroA ht hm hl hb
  cases hcan : canTo t m all (t.length - 1) with
  | true =>
    have he : errV t m all = 0 := by rw [errV, if_pos hz, hcan]; rfl
    exact .inl ⟨he, by rw [costV, if_pos he], hl, hb, hf, can_iff.1 hcan⟩
  | false =>
    have he : errV t m all = 5 := by rw [errV, if_pos hz, hcan]; rfl
    exact .inr ⟨he, by rw [costV, if_neg (by omega)]⟩
theorem asg_cost {t : List Node} {m : List (List Int)} {st all : List Int} (hc : checkE t m st = 0) (h : Asg t m st all) : errV t m all = 0 ∧ costV t m all = costTo t m all (t.length - 1) := by
  rcases cost_cases hc h.len h.bd h.fit with ⟨h1, h2, _⟩ | ⟨h1, _⟩
  · exact ⟨h1, h2⟩
  · obtain ⟨ht, hm, _, _⟩ := checkE_zero hc
    have hcan := can_iff.2 h.can
    rw [errV, if_pos (check_zeroA ht hm h.len h.bd), hcan] at h1
    cases h1

/-! any states -/
def baseN (n : Nat) (l : List Nat) (v : Nat) : Int := if l = [] then ((v % n : Nat) : Int) else ((l.getD (v % l.length) 0 % n : Nat) : Int)
def baseL (n : Nat) (l : List Nat) (N k : Nat) : List Int := (List.range N).map fun v => if v < k then baseN n l v else 0
theorem baseL_len (n : Nat) (l : List Nat) (N k : Nat) : (baseL n l N k).length = N := by simp [baseL]
theorem baseL_zero (n : Nat) (l : List Nat) (N : Nat) : baseL n l N 0 = List.replicate N 0 := by
  refine List.ext_getElem (by simp [baseL]) fun i h1 h2 => ?_
  simp [baseL]
theorem baseL_set {n : Nat} {l : List Nat} {N k : Nat} (hk : k < N) : (baseL n l N k).set k (baseN n l k) = baseL n l N (k + 1) := by
  refine List.ext_getElem (by simp [baseL]) fun i h1 h2 => ?_
  simp only [baseL, List.getElem_set, List.getElem_map, List.getElem_range]
  by_cases h : k = i
  · subst h; rw [if_pos rfl, if_pos (by omega)]
  · rw [if_neg h]
    by_cases h2 : i < k
    · rw [if_pos h2, if_pos (by omega)]
    · rw [if_neg h2, if_neg (by omega)]
theorem baseN_bd (n : Nat) (l : List Nat) (v : Nat) (hn : 0 < n) : 0 ≤ baseN n l v ∧ baseN n l v < n := by
  rw [baseN]
  split
  · have := Nat.mod_lt v hn; omega
  · have := Nat.mod_lt (l.getD (v % l.length) 0) hn; omega
theorem baseL_at {n : Nat} {l : List Nat} {N v : Nat} (hv : v < N) : (baseL n l N N).getD v 0 = baseN n l v := by
  simp [baseL, List.getD, hv]
/-- the leaves have what they must -/
def putTo (L W A : List Int) : Nat → List Int
  | 0 => A
  | k + 1 => if 0 ≤ W.getD k 0 then (putTo L W A k).set (L.getD k 0).toNat (W.getD k 0) else putTo L W A k
theorem putTo_len (L W A : List Int) : ∀ k, (putTo L W A k).length = A.length
  | 0 => rfl
  | k + 1 => by
    rw [putTo]
    split
    · rw [List.length_set, putTo_len L W A k]
    · exact putTo_len L W A k
theorem set_at2 {w : List Int} {j k : Nat} {x : Int} (h : k < w.length) : (w.set j x).getD k 0 = if j = k then x else w.getD k 0 := by
  simp only [List.getD, List.getElem?_set]
  by_cases e : j = k
  · rw [if_pos e, if_pos e, if_pos (by omega)]; rfl
  · rw [if_neg e, if_neg e]
theorem putTo_bd {L W A : List Int} {n : Int} (hA : ∀ v, v < A.length → 0 ≤ A.getD v 0 ∧ A.getD v 0 < n) (hW : ∀ k, k < W.length → W.getD k 0 < n) : ∀ k, k ≤ W.length → ∀ v, v < A.length → 0 ≤ (putTo L W A k).getD v 0 ∧ (putTo L W A k).getD v 0 < n
  | 0, _, v, hv => hA v hv
  | k + 1, hk, v, hv => by
    have ih := putTo_bd (L := L) hA hW k (by omega) v hv
    rw [putTo]
    split
    · rw [set_at2 (by rw [putTo_len]; exact hv)]
      split
      · have := hW k (by omega); omega
      · exact ih
    · exact ih
theorem putTo_fit {t : List Node} {W A : List Int} (hA : A.length = t.length) : ∀ k, k ≤ (leavesOf t).length → ∀ j, j < k → ∀ v, v < t.length → ((leavesOf t).getD j 0).toNat = v → 0 ≤ W.getD j 0 → (putTo (leavesOf t) W A k).getD v 0 = W.getD j 0
  | 0, _, j, hj, _, _, _, _ => by omega
  | k + 1, hk, j, hj, v, hv, e, hw => by
    rw [putTo]
    rcases Nat.lt_succ_iff_lt_or_eq.1 hj with h | h
    · have ih := putTo_fit hA k (by omega) j h v hv e hw
      split
      · rw [set_at2 (by rw [putTo_len]; omega), if_neg]
        · exact ih
        · intro e2
          obtain ⟨a, ha, _⟩ := leaf_at (t := t) (k := j) (by omega)
          obtain ⟨b, hb, _⟩ := leaf_at (t := t) (k := k) (by omega)
          have : (leavesOf t).getD j 0 = (leavesOf t).getD k 0 := by
            rw [ha] at e ⊢
            rw [hb] at e2 ⊢
            omega
          have := leaf_inj (t := t) (by omega) (by omega) this
          omega
      · exact ih
    · subst h
      rw [if_pos hw, set_at2 (by rw [putTo_len]; omega), if_pos e]
theorem putTo_ini {t : List Node} {m : List (List Int)} {W A : List Int} (hA : A.length = t.length) (hb : ∀ v, v < t.length → 0 ≤ (putTo (leavesOf t) W A (leavesOf t).length).getD v 0 ∧ (putTo (leavesOf t) W A (leavesOf t).length).getD v 0 < m.length) (hW : ∀ k, k < (leavesOf t).length → -1 ≤ W.getD k 0) {v : Nat} (hv : v < t.length) :
    iniF t m W v (aOf (putTo (leavesOf t) W A (leavesOf t).length) v) = 0 := by
  have h := hb v hv
  refine (ini_zero (by rw [aOf]; omega)).2 fun k hk e => ?_
  have hw := hW k hk
  by_cases h1 : W.getD k 0 = -1
  · exact .inl h1
  · right
    have := putTo_fit (W := W) hA (leavesOf t).length (Nat.le_refl _) k hk v hv e (by omega)
    rw [aOf, this]
    omega
/-- the root's cost -/
theorem given_root {t : List Node} {m : List (List Int)} {st : List Int} (he : errP t m st = 0) : ∃ (b : Nat) (r : List Int), rootsV t m st = (b : Int) :: r ∧ (bestV t m st).getD 0 0 = (b : Int) ∧ errG t m st b = 0 ∧ givenV t m st b = minV t m st := by
  obtain ⟨hc, hr⟩ := errP_zero he
  have g := good_of hc
  obtain ⟨b, h1, h2, h3, h4, _⟩ := g.rootB hr
  obtain ⟨r, hrr⟩ := g.roots hr
  have hg : errG t m st b = 0 := by
    rw [errG, if_pos hc, if_neg (by omega), Int.toNat_natCast, if_neg (by omega)]
  refine ⟨b, r, ?_, ?_, hg, ?_⟩
  · rw [rootsV, if_pos he, hrr, h2]
  · rw [(opt_best he).2.2.2, h2]
  · rw [givenV, if_pos hg, minV, if_pos he, Int.toNat_natCast, h3]

end Go.Cp
end
