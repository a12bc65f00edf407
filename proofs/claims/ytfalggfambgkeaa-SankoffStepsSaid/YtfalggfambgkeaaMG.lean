/-
  Sankoff: the smallest cost, the root's states. Conditions: none.
  Sankoff: the first of the cheapest assignments. Conditions: none.
  Sankoff: the cost and the changes of an assignment. Conditions: none.
  Sankoff: sums and products that do not fit. Conditions: none.
-/
import Derived.Test.YtfalggfambgkeaaMF

section
set_option linter.unusedVariables false
set_option linter.unusedSimpArgs false
set_option maxHeartbeats 4000000
set_option maxRecDepth 10000
namespace Go.Cp
open Go Go.Proofs Go.Vx

def rootP (t : List Node) (m : List (List Int)) (st : List Int) : Int × Int := bestTo (solF t m st 0) m.length
def errP (t : List Node) (m : List (List Int)) (st : List Int) : Int := if checkE t m st = 0 then (if (rootP t m st).1 = -1 then 5 else 0) else checkE t m st
def minV (t : List Node) (m : List (List Int)) (st : List Int) : Int := if errP t m st = 0 then (rootP t m st).1 else 0

structure Good (t : List Node) (m : List (List Int)) (st : List Int) : Prop where
  tree : okTree t = true
  mat : Mat m
  len : st.length = (leavesOf t).length
  stb : ∀ k, -1 ≤ st.getD k 0 ∧ (k < st.length → st.getD k 0 < m.length)
  n0 : 0 < t.length
  n63 : t.length ≤ 63
  par : ∀ v, 0 < v → v < t.length → parN t v < v ∧ parOf t v = (parN t v : Nat)
  bd : ∀ v s, -1 ≤ solF t m st v s ∧ solF t m st v s ≤ 62 * 1073741824
theorem good_of {t : List Node} {m : List (List Int)} {st : List Int} (h : checkE t m st = 0) : Good t m st := by
  obtain ⟨ht, hm, hsl, hst⟩ := checkE_zero h
  have hmat := okM_mat hm
  obtain ⟨hn0, hn63⟩ := okTree_len ht
  have hpp : ∀ v, 0 < v → v < t.length → parN t v < v ∧ parOf t v = (parN t v : Nat) := fun v h0 hv => by
    have := okTree_par ht hv h0
    rw [parN]; omega
  refine ⟨ht, hmat, hsl, hst, hn0, hn63, hpp, fun v s => ?_⟩
  have h1 := cost_cap (t := t) (F := iniF t m st) hmat (fun v s => ini_bd _ _ _ _ _ _) (t.length - 1) v s
  have h2 := (cnt_sum (t := t) (fun v h0 hv => (hpp v h0 hv).1) (t.length - 1) (by omega)).2 v
  show -1 ≤ costF t m (iniF t m st) (t.length - 1) v s ∧ costF t m (iniF t m st) (t.length - 1) v s ≤ 62 * 1073741824
  omega
theorem Good.tab {t : List Node} {m : List (List Int)} {st : List Int} (g : Good t m st) : Tab t.length (tabOf t.length (solF t m st)) := tabOf_tab fun v s _ _ => by
  have := g.bd v s; omega
theorem Good.root {t : List Node} {m : List (List Int)} {st : List Int} (g : Good t m st) : bestTo (cellAt (tabOf t.length (solF t m st)) 0) m.length = rootP t m st :=
  bestTo_congr fun s hs => tabOf_cell g.n0 (by have := g.mat.2.1; omega)
theorem Good.least {t : List Node} {m : List (List Int)} {st : List Int} (g : Good t m st) {v a : Nat} (hv : v < t.length) : bestTo (stepI m (tabOf t.length (solF t m st)) v a) m.length = bestTo (stepF m (solF t m st) v a) m.length :=
  bestTo_congr fun b hb => by rw [stepI, stepF, tabOf_cell hv (by have := g.mat.2.1; omega)]

theorem possible_bad (t : List Node) (m : List (List Int)) (st : List Int) (hs : Small t) (hc : errP t m st ≠ 0) :
    Ok Try.prog E 50 [.c (nodes t), .c (rowsS m), .c (nums st)] (.tp [.ag [.sl [], .sl [], .sl []], zv (errP t m st)]) := by
  refine ok_of_vcC (L := []) (rs := [.cell 6 72, .tmp 7]) envOK mixed Try.func50 rfl (by kernel_rfl) rfl (by kernel_rfl) rfl fun hl => ?_
  by_cases h : checkE t m st = 0
  · have g := good_of h
    rw [errP, if_pos h] at hc
    have hr : (rootP t m st).1 = -1 := Decidable.byContradiction fun e => hc (if_neg e)
    have he : errP t m st = 5 := by rw [errP, if_pos h, if_pos hr]
    simp only [Try.f50, he, nums, rowsS, nodes, zv, bv, sv, nv, VZ, BEq.rfl, seval, -Int.reduceNatCast', kAgg, scD, List.all_cons, List.all_nil]
    refine CallX.mk (solved_ok t m st hs h) rfl ?_
    simp only [costsD, nums, rowsS, nodes, zv, bv, sv, nv, VZ, BEq.rfl, seval, -Int.reduceNatCast', kAgg, scD, List.all_cons, List.all_nil]
    refine CallX.mk (root_ok t m _ _ g.mat g.tab g.n0) rfl ?_
    simp only [g.root, hr, nums, rowsS, nodes, zv, bv, sv, nv, VZ, BEq.rfl, seval, -Int.reduceNatCast', kAgg, scD, List.all_cons, List.all_nil]
  · have he : errP t m st = checkE t m st := by rw [errP, if_neg h]
    have h1 : (checkE t m st != 0) = true := by simpa using h
    simp only [Try.f50, he, nums, rowsS, nodes, zv, bv, sv, nv, VZ, BEq.rfl, seval, -Int.reduceNatCast', kAgg, scD, List.all_cons, List.all_nil]
    refine CallX.mk (solved_bad t m st hs h) rfl ?_
    simp only [h1, nums, rowsS, nodes, zv, bv, sv, nv, VZ, BEq.rfl, seval, -Int.reduceNatCast', kAgg, scD, List.all_cons, List.all_nil]
theorem errP_zero {t : List Node} {m : List (List Int)} {st : List Int} (h : errP t m st = 0) : checkE t m st = 0 ∧ (rootP t m st).1 ≠ -1 := by
  rw [errP] at h
  by_cases hc : checkE t m st = 0
  · rw [if_pos hc] at h
    refine ⟨hc, fun e => ?_⟩
    rw [if_pos e] at h; omega
  · rw [if_neg hc] at h; exact absurd h hc
theorem possible_ok (t : List Node) (m : List (List Int)) (st : List Int) (hs : Small t) (hc : errP t m st = 0) :
    Ok Try.prog E 50 [.c (nodes t), .c (rowsS m), .c (nums st)] (.tp [.ag [nodes t, rowsS m, costsD (tabOf t.length (solF t m st))], zv 0]) := by
  obtain ⟨h, hr⟩ := errP_zero hc
  have g := good_of h
  refine ok_of_vcC (L := []) (rs := [.cell 6 72, .tmp 7]) envOK mixed Try.func50 rfl (by kernel_rfl) rfl (by kernel_rfl) rfl fun hl => ?_
  have h1 : ((rootP t m st).1 == -1) = false := by simpa using hr
  simp only [Try.f50, nums, rowsS, nodes, zv, bv, sv, nv, VZ, BEq.rfl, seval, -Int.reduceNatCast', kAgg, scD, List.all_cons, List.all_nil]
  refine CallX.mk (solved_ok t m st hs h) rfl ?_
  simp only [costsD, nums, rowsS, nodes, zv, bv, sv, nv, VZ, BEq.rfl, seval, -Int.reduceNatCast', kAgg, scD, List.all_cons, List.all_nil]
  refine CallX.mk (root_ok t m _ _ g.mat g.tab g.n0) rfl ?_
  simp only [g.root, h1, nums, rowsS, nodes, zv, bv, sv, nv, VZ, BEq.rfl, seval, -Int.reduceNatCast', kAgg, scD, List.all_cons, List.all_nil]

theorem Min_ok (t : List Node) (m : List (List Int)) (st : List Int) (hs : Small t) : Ok Try.prog E 21 [.c (nodes t), .c (rowsS m), .c (nums st)] (.tp [zv (minV t m st), zv (errP t m st)]) := by
  refine ok_of_vc (L := []) (ts := [6, 7]) envOK mixed Try.func21 rfl (by kernel_rfl) rfl (by kernel_rfl) rfl fun hl => ?_
  simp only [Try.f21, minV, nums, rowsS, nodes, zv, bv, sv, nv, VZ, BEq.rfl, seval, -Int.reduceNatCast', kAgg, scD, List.all_cons, List.all_nil]
  by_cases h : errP t m st = 0
  · have g := good_of (errP_zero h).1
    refine CallX.mk (possible_ok t m st hs h) rfl ?_
    simp only [costsD, nums, rowsS, nodes, zv, bv, sv, nv, VZ, BEq.rfl, seval, -Int.reduceNatCast', kAgg, scD, List.all_cons, List.all_nil]
    refine CallX.mk (root_ok t m _ _ g.mat g.tab g.n0) rfl ?_
    simp only [g.root, h, if_pos, nums, rowsS, nodes, zv, bv, sv, nv, VZ, BEq.rfl, seval, -Int.reduceNatCast', kAgg, scD, List.all_cons, List.all_nil]
  · have h1 : (errP t m st != 0) = true := by simpa using h
    refine CallX.mk (possible_bad t m st hs h) rfl ?_
    simp only [h1, if_neg h, nums, rowsS, nodes, zv, bv, sv, nv, VZ, BEq.rfl, seval, -Int.reduceNatCast', kAgg, scD, List.all_cons, List.all_nil]

def errG (t : List Node) (m : List (List Int)) (st : List Int) (r : Int) : Int :=
  if checkE t m st = 0 then (if r < 0 ∨ (m.length : Int) ≤ r then 3 else if solF t m st 0 r.toNat = -1 then 5 else 0) else checkE t m st
def givenV (t : List Node) (m : List (List Int)) (st : List Int) (r : Int) : Int := if errG t m st r = 0 then solF t m st 0 r.toNat else 0

theorem Given_ok (t : List Node) (m : List (List Int)) (st : List Int) (r : Int) (hs : Small t) : Ok Try.prog E 35 [.c (nodes t), .c (rowsS m), .c (nums st), zv r] (.tp [zv (givenV t m st r), zv (errG t m st r)]) := by
  refine ok_of_vc (L := []) (ts := [8, 9]) envOK mixed Try.func35 rfl (by kernel_rfl) rfl (by kernel_rfl) rfl fun hl => ?_
  simp only [Try.f35, nums, rowsS, nodes, zv, bv, sv, nv, VZ, BEq.rfl, seval, -Int.reduceNatCast', kAgg, scD, List.all_cons, List.all_nil]
  by_cases h : checkE t m st = 0
  · have g := good_of h
    have he : errG t m st r = if r < 0 ∨ (m.length : Int) ≤ r then 3 else if solF t m st 0 r.toNat = -1 then 5 else 0 := by rw [errG, if_pos h]
    refine CallX.mk (solved_ok t m st hs h) rfl ?_
    simp only [costsD, nums, rowsS, nodes, zv, bv, sv, nv, VZ, BEq.rfl, seval, -Int.reduceNatCast', kAgg, scD, List.all_cons, List.all_nil]
    refine guardB.mk (fun h1 => ?_) (fun h1 => ?_) <;> simp only [h1, nums, rowsS, nodes, zv, bv, sv, nv, VZ, BEq.rfl, seval, -Int.reduceNatCast', kAgg, scD, List.all_cons, List.all_nil]
    · have h1 : r < 0 := by simpa using h1
      rw [if_pos (by exact .inl h1)] at he
      simp only [givenV, he, nums, rowsS, nodes, zv, bv, sv, nv, VZ, BEq.rfl, seval, -Int.reduceNatCast', kAgg, scD, List.all_cons, List.all_nil]
      try rfl
    have h1 : ¬ r < 0 := by simpa using h1
    refine guardB.mk (fun h2 => ?_) (fun h2 => ?_) <;> simp only [h2, nums, rowsS, nodes, zv, bv, sv, nv, VZ, BEq.rfl, seval, -Int.reduceNatCast', kAgg, scD, List.all_cons, List.all_nil]
    · have h2 : (m.length : Int) ≤ r := by simpa using h2
      rw [if_pos (by exact .inr h2)] at he
      simp only [givenV, he, nums, rowsS, nodes, zv, bv, sv, nv, VZ, BEq.rfl, seval, -Int.reduceNatCast', kAgg, scD, List.all_cons, List.all_nil]
      try rfl
    have h2 : ¬ (m.length : Int) ≤ r := by simpa using h2
    rw [if_neg (by omega)] at he
    have hm12 := g.mat.2.1
    have hr12 : r.toNat < 12 := by omega
    simp only [drop_tab g.n0 hr12, tabOf_len, row_len g.n0, int_beq, nums, rowsS, nodes, zv, bv, sv, nv, VZ, BEq.rfl, seval, -Int.reduceNatCast', kAgg, scD, List.all_cons, List.all_nil]
    have hn0 := g.n0
    refine ⟨hn0, by omega, ?_⟩
    refine guardB.mk (fun h3 => ?_) (fun h3 => ?_) <;> simp only [h3, nums, rowsS, nodes, zv, bv, sv, nv, VZ, BEq.rfl, seval, -Int.reduceNatCast', kAgg, scD, List.all_cons, List.all_nil]
    · have h3 : solF t m st 0 r.toNat = -1 := by simpa using h3
      rw [if_pos h3] at he
      simp only [givenV, he, nums, rowsS, nodes, zv, bv, sv, nv, VZ, BEq.rfl, seval, -Int.reduceNatCast', kAgg, scD, List.all_cons, List.all_nil]
      try rfl
    · have h3 : solF t m st 0 r.toNat ≠ -1 := by simpa using h3
      rw [if_neg h3] at he
      simp only [givenV, he, if_pos, drop_tab g.n0 hr12, tabOf_len, row_len g.n0, nums, rowsS, nodes, zv, bv, sv, nv, VZ, BEq.rfl, seval, -Int.reduceNatCast', kAgg, scD, List.all_cons, List.all_nil]
      exact ⟨hn0, by omega, hr12⟩
  · have he : errG t m st r = checkE t m st := by rw [errG, if_neg h]
    have h1 : (checkE t m st != 0) = true := by simpa using h
    simp only [he, givenV, if_neg h, nums, rowsS, nodes, zv, bv, sv, nv, VZ, BEq.rfl, seval, -Int.reduceNatCast', kAgg, scD, List.all_cons, List.all_nil]
    refine CallX.mk (solved_bad t m st hs h) rfl ?_
    simp only [h1, nums, rowsS, nodes, zv, bv, sv, nv, VZ, BEq.rfl, seval, -Int.reduceNatCast', kAgg, scD, List.all_cons, List.all_nil]

/-- the states with the smallest cost, among the first k -/
def rootsTo (t : List Node) (m : List (List Int)) (st : List Int) (k : Nat) : List Int := ((List.range k).filter fun s => decide (solF t m st 0 s = (rootP t m st).1)).map fun (s : Nat) => (s : Int)
def rootsV (t : List Node) (m : List (List Int)) (st : List Int) : List Int := if errP t m st = 0 then rootsTo t m st m.length else []
theorem rootsTo_succ (t : List Node) (m : List (List Int)) (st : List Int) (k : Nat) : rootsTo t m st (k + 1) = if solF t m st 0 k = (rootP t m st).1 then rootsTo t m st k ++ [(k : Int)] else rootsTo t m st k := by
  rw [rootsTo, List.range_succ, List.filter_append, List.map_append]
  by_cases h : solF t m st 0 k = (rootP t m st).1
  · rw [if_pos h]; simp [h, rootsTo]
  · rw [if_neg h]; simp [h, rootsTo]
theorem rootsTo_nums (t : List Node) (m : List (List Int)) (st : List Int) (k : Nat) : (rootsTo t m st (k + 1)).map num = if solF t m st 0 k = (rootP t m st).1 then (rootsTo t m st k).map num ++ [num k] else (rootsTo t m st k).map num := by
  rw [rootsTo_succ]; split <;> simp
theorem rootsTo_len (t : List Node) (m : List (List Int)) (st : List Int) (k : Nat) : (rootsTo t m st k).length ≤ k := by
  rw [rootsTo, List.length_map]
  exact Nat.le_trans (List.length_filter_le _ _) (by simp)

theorem Roots_okF (t : List Node) (m : List (List Int)) (st : List Int) (hs : Small t) : Ok Try.prog E 26 [.c (nodes t), .c (rowsS m), .c (nums st)] (.tp [.fr 3 ((rootsV t m st).map num), zv (errP t m st)]) := by
  refine ok_of_vc (L := []) (ts := [6, 7]) envOK mixed Try.func26 rfl (by kernel_rfl) rfl (by kernel_rfl) rfl fun hl => ?_
  simp only [Try.f26, rootsV, nums, rowsS, nodes, zv, bv, sv, nv, VZ, BEq.rfl, seval, -Int.reduceNatCast', kAgg, scD, List.all_cons, List.all_nil]
  by_cases h : errP t m st = 0
  · have g := good_of (errP_zero h).1
    have hm12 := g.mat.2.1
    refine CallX.mk (possible_ok t m st hs h) rfl ?_
    simp only [costsD, nums, rowsS, nodes, zv, bv, sv, nv, VZ, BEq.rfl, seval, -Int.reduceNatCast', kAgg, scD, List.all_cons, List.all_nil]
    refine CallX.mk (root_ok t m _ _ g.mat g.tab g.n0) rfl ?_
    obtain ⟨F, hF⟩ : ∃ F, solF t m st = F := ⟨_, rfl⟩
    obtain ⟨x, hx⟩ : ∃ x, rootP t m st = x := ⟨_, rfl⟩
    obtain ⟨x, y⟩ := x
    have hroot := g.root
    rw [hF, hx] at hroot
    simp only [hF, hroot, h, if_pos, nums, rowsS, nodes, zv, bv, sv, nv, VZ, BEq.rfl, seval, -Int.reduceNatCast', kAgg, scD, List.all_cons, List.all_nil]
    refine LoopVC.mk (Y := Nat) (fun k => k ≤ m.length) (fun k => ⟨[(8, .bp 8 0), (10, zv x), (12, .osl 1000 0), (30, nv m.length), (31, nv k)], [(8, .cells [.c (nodes t), .c (rowsS m), .c (costsD (tabOf t.length F))]), (1000, .arr 3 0 ((rootsTo t m st k).map num))]⟩) (fun k => m.length - k) ⟨0, Enter.mk [(12, (1000, 3))] [] [] ?_, by omega⟩ ?_
    · simp only [costsD, nums, rowsS, nodes, zv, bv, sv, nv, VZ, BEq.rfl, seval, -Int.reduceNatCast', kAgg, scD, List.all_cons, List.all_nil]
      exact ⟨rfl, ⟨rfl, rfl⟩, rfl⟩
    intro k hk
    simp only [lt_nat, costsD, nums, rowsS, nodes, zv, bv, sv, nv, VZ, BEq.rfl, seval, -Int.reduceNatCast', kAgg, scD, List.all_cons, List.all_nil]
    refine guardB.mk (fun h => ?_) (fun h => ?_)
    · have hk' : k < m.length := by simpa using h
      clear h
      have hk12 : k < 12 := by omega
      have hlt := rootsTo_len t m st k
      have hnum := rootsTo_nums t m st k
      rw [hF, hx] at hnum
      simp only [getD_rowE (tabOf t.length F) 0 (by rw [tabOf_len]; exact g.n0), drop_rowE (show k < ((tabOf t.length F).getD 0 []).length by rw [tabOf_row g.n0]; simpa using hk12), int_beq, nums, rowsS, nodes, zv, bv, sv, nv, VZ, BEq.rfl, seval, -Int.reduceNatCast', kAgg, scD, List.all_cons, List.all_nil]
      have hcell : ((tabOf t.length F).getD 0 []).getD k 0 = F 0 k := tabOf_cell g.n0 hk12
      have hrl : (rowE ((tabOf t.length F).getD 0 [])).length = 12 := by rw [tabOf_row g.n0]; simp [rowE]
      simp only [hcell, hrl, tabOf_len]
      have hn0 := g.n0
      refine ⟨⟨hn0, trivial⟩, ⟨Int.natCast_nonneg k, hk12⟩, ?_⟩
      refine guardB.mk (fun h => ?_) (fun h => ?_) <;> simp only [h, wrap_nat (k := k) (by omega), nums, rowsS, nodes, zv, bv, sv, nv, VZ, BEq.rfl, seval, -Int.reduceNatCast', kAgg, scD, List.all_cons, List.all_nil]
      · have h : F 0 k = x := by simpa using h
        rw [if_pos h] at hnum
        refine ⟨⟨by omega, allLen_num [(k : Int)]⟩, k + 1, Enter.mk [] [] [] ?_, by omega, by show m.length - (k + 1) < m.length - k; omega⟩
        simp only [hnum, num_def, nums, rowsS, nodes, zv, bv, sv, nv, VZ, BEq.rfl, seval, -Int.reduceNatCast', kAgg, scD, List.all_cons, List.all_nil]
      · have h : ¬ F 0 k = x := by simpa using h
        rw [if_neg h] at hnum
        refine ⟨k + 1, Enter.mk [] [] [] ?_, by omega, by show m.length - (k + 1) < m.length - k; omega⟩
        simp only [hnum, nums, rowsS, nodes, zv, bv, sv, nv, VZ, BEq.rfl, seval, -Int.reduceNatCast', kAgg, scD, List.all_cons, List.all_nil]
    · have hk' : k = m.length := by
        have : ¬ k < m.length := by simpa using h
        omega
      subst hk'
      simp only [nums, rowsS, nodes, zv, bv, sv, nv, VZ, BEq.rfl, seval, -Int.reduceNatCast', kAgg, scD, List.all_cons, List.all_nil]
  · have h1 : (errP t m st != 0) = true := by simpa using h
    refine CallX.mk (possible_bad t m st hs h) rfl ?_
    simp only [h1, if_neg h, nums, rowsS, nodes, zv, bv, sv, nv, VZ, BEq.rfl, seval, -Int.reduceNatCast', kAgg, scD, List.all_cons, List.all_nil]
    try rfl
theorem Roots_ok (t : List Node) (m : List (List Int)) (st : List Int) (hs : Small t) : Ok Try.prog E 26 [.c (nodes t), .c (rowsS m), .c (nums st)] (.tp [.c (nums (rootsV t m st)), zv (errP t m st)]) := (Roots_okF t m st hs).vals

end Go.Cp
end

section
set_option linter.unusedVariables false
set_option linter.unusedSimpArgs false
set_option maxHeartbeats 4000000
set_option maxRecDepth 10000
namespace Go.Cp
open Go Go.Proofs Go.Vx

def pickTo (t : List Node) (m : List (List Int)) (st : List Int) : Nat → List Int
  | 0 => []
  | v + 1 => pickTo t m st v ++ [if v = 0 then (rootP t m st).2 else (bestTo (stepF m (solF t m st) v ((pickTo t m st v).getD (parN t v) 0).toNat) m.length).2]
def bestV (t : List Node) (m : List (List Int)) (st : List Int) : List Int := if errP t m st = 0 then pickTo t m st t.length else []

theorem pickTo_len (t : List Node) (m : List (List Int)) (st : List Int) (v : Nat) : (pickTo t m st v).length = v := by
  induction v with
  | zero => rfl
  | succ v ih => rw [pickTo, List.length_append, ih]; rfl
theorem getD_last {α : Type} (xs : List α) (a z : α) {n : Nat} (h : n = xs.length) : (xs ++ [a]).getD n z = a := by
  subst h; simp [List.getD]
theorem getD_front {α : Type} (xs ys : List α) (z : α) {n : Nat} (h : n < xs.length) : (xs ++ ys).getD n z = xs.getD n z := by
  simp [List.getD, List.getElem?_append_left h]
theorem bestTo_some {c : Nat → Int} {k : Nat} (h : (bestTo c k).1 ≠ -1) : ∃ b : Nat, (bestTo c k).2 = (b : Int) ∧ b < k ∧ c b = (bestTo c k).1 := by
  induction k with
  | zero => exact absurd rfl h
  | succ k ih =>
    rw [bestTo_succ] at h ⊢
    by_cases hc : c k ≠ -1 ∧ ((bestTo c k).1 = -1 ∨ c k < (bestTo c k).1)
    · rw [if_pos hc]; exact ⟨k, rfl, by omega, rfl⟩
    · rw [if_neg hc] at h ⊢
      obtain ⟨b, h1, h2, h3⟩ := ih h
      exact ⟨b, h1, by omega, h3⟩
theorem fold_pos {g : Nat → Int} (l : List Nat) : ∀ a : Int, 0 ≤ l.foldl (fun a w => comb a (g w)) a → 0 ≤ a ∧ ∀ w ∈ l, 0 ≤ g w := by
  induction l with
  | nil => intro a h; exact ⟨h, by simp⟩
  | cons b r ih =>
    intro a h
    rw [List.foldl_cons] at h
    obtain ⟨h1, h2⟩ := ih _ h
    rw [comb] at h1
    split at h1
    · omega
    · refine ⟨by omega, fun w hw => ?_⟩
      rcases List.mem_cons.1 hw with rfl | hw
      · omega
      · exact h2 w hw
theorem Good.child {t : List Node} {m : List (List Int)} {st : List Int} (g : Good t m st) {v a : Nat} (hv0 : 0 < v) (hv : v < t.length) (ha : a < m.length) (h : solF t m st (parN t v) a ≠ -1) : underF m (solF t m st) v a ≠ -1 := by
  have hb := (g.bd (parN t v) a).1
  have hf := fin_kids (t := t) (m := m) (I := iniF t m st) g.tree (parN t v) a ha
  have h0 : 0 ≤ solF t m st (parN t v) a := by omega
  have h0 : 0 ≤ finF t m (iniF t m st) (parN t v) a := h0
  rw [hf] at h0
  have := (fold_pos _ _ h0).2 v (by
    rw [kidsN, List.mem_filter, List.mem_range]
    exact ⟨hv, by simpa using (g.par v hv0 hv).2⟩)
  intro e
  have e : underF m (finF t m (iniF t m st)) v a = -1 := e
  omega
theorem pick_good {t : List Node} {m : List (List Int)} {st : List Int} (g : Good t m st) (hr : (rootP t m st).1 ≠ -1) : ∀ v, v ≤ t.length → ∀ u, u < v → ∃ b : Nat, (pickTo t m st v).getD u 0 = (b : Int) ∧ b < m.length ∧ solF t m st u b ≠ -1 := by
  intro v
  induction v with
  | zero => intro _ u hu; omega
  | succ v ih =>
    intro hv u hu
    rw [pickTo]
    by_cases huv : u < v
    · rw [getD_front _ _ _ (by rw [pickTo_len]; exact huv)]
      exact ih (by omega) u huv
    · have huv : u = v := by omega
      subst huv
      rw [getD_last _ _ _ (pickTo_len t m st u).symm]
      by_cases hu0 : u = 0
      · rw [if_pos hu0]
        obtain ⟨b, h1, h2, h3⟩ := bestTo_some hr
        exact ⟨b, h1, h2, by rw [hu0, h3]; exact hr⟩
      · rw [if_neg hu0]
        have hp := g.par u (by omega) (by omega)
        obtain ⟨a, h1, h2, h3⟩ := ih (by omega) (parN t u) hp.1
        rw [h1]
        have hc := g.child (by omega) (by omega) h2 h3
        obtain ⟨b, h4, h5, h6⟩ := bestTo_some hc
        refine ⟨b, h4, h5, fun e => ?_⟩
        rw [stepF, if_pos (.inr e)] at h6
        exact hc h6.symm

def outE (t : List Node) (m : List (List Int)) (st : List Int) (v : Nat) : List (List D) := (pickTo t m st v ++ List.replicate (t.length - v) 0).map num
theorem outE_len {t : List Node} {m : List (List Int)} {st : List Int} {v : Nat} (h : v ≤ t.length) : (outE t m st v).length = t.length := by
  rw [outE, List.length_map, List.length_append, pickTo_len, List.length_replicate]; omega
theorem outE_set {t : List Node} {m : List (List Int)} {st : List Int} {v : Nat} {x : Int} (h : v < t.length) (hx : pickTo t m st (v + 1) = pickTo t m st v ++ [x]) : (outE t m st v).set v [.sc (.int .i64 x)] = outE t m st (v + 1) := by
  have e1 : [D.sc (.int .i64 x)] = num x := rfl
  rw [outE, outE, e1, ← List.map_set, hx, List.set_append, if_neg (by rw [pickTo_len]; omega), pickTo_len, Nat.sub_self, show t.length - v = (t.length - (v + 1)) + 1 by omega, List.replicate_succ, List.set_cons_zero, List.append_assoc]
  try rfl
theorem outE_get {t : List Node} {m : List (List Int)} {st : List Int} {v u : Nat} (h : u < v) (hv : v ≤ t.length) : (outE t m st v).getD u [] = num ((pickTo t m st v).getD u 0) := by
  rw [outE, getD_num _ u (by rw [List.length_append, pickTo_len]; omega), getD_front _ _ _ (by rw [pickTo_len]; exact h)]

theorem drop1_num (xs : List Int) (k : Nat) : List.drop 1 ((xs.map num).getD k []) = [] := by
  by_cases h : k < xs.length
  · rw [getD_num xs k h]; rfl
  · rw [List.getD, List.getElem?_eq_none (by simp; omega)]; rfl
theorem rep_num (n : Nat) : List.replicate n [D.sc (.int .i64 0)] = (List.replicate n (0 : Int)).map num := by rw [List.map_replicate]; rfl

theorem Best_okF (t : List Node) (m : List (List Int)) (st : List Int) (hs : Small t) : Ok Try.prog E 25 [.c (nodes t), .c (rowsS m), .c (nums st)] (.tp [.fr 3 ((bestV t m st).map num), zv (errP t m st)]) := by
  refine ok_of_vc (L := []) (ts := [6, 7]) envOK mixed Try.func25 rfl (by kernel_rfl) rfl (by kernel_rfl) rfl fun hl => ?_
  simp only [Try.f25, bestV, nums, rowsS, nodes, zv, bv, sv, nv, VZ, BEq.rfl, seval, -Int.reduceNatCast', kAgg, scD, List.all_cons, List.all_nil]
  by_cases h : errP t m st = 0
  · have hr := (errP_zero h).2
    have g := good_of (errP_zero h).1
    have hm12 := g.mat.2.1
    have hn0 := g.n0
    have hn63 := g.n63
    refine CallX.mk (possible_ok t m st hs h) rfl ?_
    simp only [costsD, h, if_pos, nums, rowsS, nodes, zv, bv, sv, nv, VZ, BEq.rfl, seval, -Int.reduceNatCast', kAgg, scD, List.all_cons, List.all_nil]
    refine ⟨⟨by omega, by omega⟩, ?_⟩
    refine CallX.mk (root_ok t m _ _ g.mat g.tab g.n0) rfl ?_
    have hset0 : ((List.replicate t.length (0 : Int)).map num).set 0 [.sc (.int .i64 (rootP t m st).2)] = outE t m st 1 := by
      have := outE_set (m := m) (st := st) (v := 0) (x := (rootP t m st).2) hn0 (by rw [pickTo]; rfl)
      rw [← this, outE, pickTo, Nat.sub_zero, List.nil_append]
    have hlen0 := outE_len (m := m) (st := st) hn0
    have hone : ∀ v k, List.drop 1 ((outE t m st v).getD k []) = [] := fun v k => drop1_num _ _
    have hl1 : ∀ v k, k < t.length → v ≤ t.length → ((outE t m st v).getD k []).length = 1 := fun v k hk hv => by
      have := outE_len (m := m) (st := st) hv
      rw [outE, List.length_map] at this
      rw [outE, getD_num _ k (by omega)]; rfl
    have hr1 : ((List.replicate t.length (0 : Int)).map num).getD 0 [] = num 0 := by
      rw [getD_num _ 0 (by simpa using hn0)]
      simp [List.getD, hn0]
    simp only [g.root, rep_num, drop1_num, hset0, hr1, num_def, List.length_replicate, nums, rowsS, nodes, zv, bv, sv, nv, VZ, BEq.rfl, seval, -Int.reduceNatCast', kAgg, scD, List.all_cons, List.all_nil]
    refine ⟨hn0, hn0, ?_⟩
    refine LoopVC.mk (Y := Nat) (fun v => 1 ≤ v ∧ v ≤ t.length) (fun v => ⟨[(0, .c (nodes t)), (8, .bp 8 0), (10, .osl 24 0), (11, nv v)], [(8, .cells [.c (nodes t), .c (rowsS m), .c (costsD (tabOf t.length (solF t m st)))]), (24, .arr 3 0 (outE t m st v))]⟩) (fun v => t.length - v) ⟨1, Enter.mk [] [] [] ?_, by omega⟩ ?_
    · simp only [costsD, nums, rowsS, nodes, zv, bv, sv, nv, VZ, BEq.rfl, seval, -Int.reduceNatCast', kAgg, scD, List.all_cons, List.all_nil]
      try rfl
    rintro v ⟨hv1, hv⟩
    simp only [lt_nat, costsD, nums, rowsS, nodes, zv, bv, sv, nv, VZ, BEq.rfl, seval, -Int.reduceNatCast', kAgg, scD, List.all_cons, List.all_nil]
    refine guardB.mk (fun h => ?_) (fun h => ?_)
    · have hv' : v < t.length := by simpa using h
      clear h
      have hp := g.par v hv1 hv'
      have hx : (t.getD v Node.zero).parent = (parN t v : Int) := hp.2
      obtain ⟨a, ha1, ha2, ha3⟩ := pick_good g hr v hv (parN t v) hp.1
      have hget := outE_get (m := m) (st := st) hp.1 hv
      rw [ha1] at hget
      have hset := outE_set (m := m) (st := st) hv' (x := (bestTo (stepF m (solF t m st) v a) m.length).2) (by rw [pickTo, if_neg (by omega), ha1]; rfl)
      have hlen := outE_len (m := m) (st := st) hv
      simp only [getD_node t v hv', node_def, hx, hget, num_def, nums, rowsS, nodes, zv, bv, sv, nv, VZ, BEq.rfl, seval, -Int.reduceNatCast', kAgg, scD, List.all_cons, List.all_nil]
      have hpl : parN t v < (outE t m st v).length := by omega
      refine ⟨⟨Int.natCast_nonneg v, hv'⟩, Int.natCast_nonneg _, hpl, hpl, ?_⟩
      refine CallX.mk (least_ok t m _ v a t.length g.mat g.tab hv' ha2) rfl ?_
      simp only [g.least hv', hone, hset, hl1 v v hv' hv, hlen, wrap_nat (k := v) (by omega), nums, rowsS, nodes, zv, bv, sv, nv, VZ, BEq.rfl, seval, -Int.reduceNatCast', kAgg, scD, List.all_cons, List.all_nil]
      refine ⟨Int.natCast_nonneg v, hv', hv', v + 1, Enter.mk [] [] [] ?_, by omega, by show t.length - (v + 1) < t.length - v; omega⟩
      simp only [nums, rowsS, nodes, zv, bv, sv, nv, VZ, BEq.rfl, seval, -Int.reduceNatCast', kAgg, scD, List.all_cons, List.all_nil]
    · have hv' : v = t.length := by
        have : ¬ v < t.length := by simpa using h
        omega
      subst hv'
      simp only [outE, Nat.sub_self, List.replicate_zero, List.append_nil, nums, rowsS, nodes, zv, bv, sv, nv, VZ, BEq.rfl, seval, -Int.reduceNatCast', kAgg, scD, List.all_cons, List.all_nil]
  · have h1 : (errP t m st != 0) = true := by simpa using h
    refine CallX.mk (possible_bad t m st hs h) rfl ?_
    simp only [h1, if_neg h, nums, rowsS, nodes, zv, bv, sv, nv, VZ, BEq.rfl, seval, -Int.reduceNatCast', kAgg, scD, List.all_cons, List.all_nil]
    try rfl
theorem Best_ok (t : List Node) (m : List (List Int)) (st : List Int) (hs : Small t) : Ok Try.prog E 25 [.c (nodes t), .c (rowsS m), .c (nums st)] (.tp [.c (nums (bestV t m st)), zv (errP t m st)]) := (Best_okF t m st hs).vals

end Go.Cp
end

section
set_option linter.unusedVariables false
set_option linter.unusedSimpArgs false
set_option maxHeartbeats 4000000
set_option maxRecDepth 10000
namespace Go.Cp
open Go Go.Proofs Go.Vx

def errC (t : List Node) (all : List Int) (wrong : Bool) : Int := bif okTree t then (bif wrong then 2 else bif decide (all.length = t.length) then 0 else 2) else 16

theorem checked_ok (t : List Node) (all : List Int) (w : Bool) (hs : Small t) : Ok Try.prog E 46 [.c (nodes t), .c (nums all), bv w] (zv (errC t all w)) := by
  refine ok_of_vc (L := []) (ts := [6]) envOK mixed Try.func46 rfl (by kernel_rfl) rfl (by kernel_rfl) rfl fun hl => ?_
  simp only [Try.f46, errC, nums, rowsS, nodes, zv, bv, sv, nv, VZ, BEq.rfl, seval, -Int.reduceNatCast', kAgg, scD, List.all_cons, List.all_nil]
  refine CallX.mk (check_ok t hs) rfl ?_
  have e2 : ((all.length : Int) != (t.length : Int)) = !decide (all.length = t.length) := by
    rw [bne, int_beq]; congr 2; exact propext ⟨fun h => by omega, fun h => by omega⟩
  cases ht : okTree t with
  | false => simp only [errOf_false, nums, rowsS, nodes, zv, bv, sv, nv, VZ, BEq.rfl, seval, -Int.reduceNatCast', kAgg, scD, List.all_cons, List.all_nil]
  | true =>
    cases w with
    | true => simp only [errOf_true, nums, rowsS, nodes, zv, bv, sv, nv, VZ, BEq.rfl, seval, -Int.reduceNatCast', kAgg, scD, List.all_cons, List.all_nil]
    | false =>
      simp only [errOf_true, e2, nums, rowsS, nodes, zv, bv, sv, nv, VZ, BEq.rfl, seval, -Int.reduceNatCast', kAgg, scD, List.all_cons, List.all_nil]
      refine guardB.mk (fun h => ?_) (fun h => ?_) <;> simp only [h, nums, rowsS, nodes, zv, bv, sv, nv, VZ, BEq.rfl, seval, -Int.reduceNatCast', kAgg, scD, List.all_cons, List.all_nil]
      · have h : decide (all.length = t.length) = false := by simpa using h
        simp only [h, nums, rowsS, nodes, zv, bv, sv, nv, VZ, BEq.rfl, seval, -Int.reduceNatCast', kAgg, scD, List.all_cons, List.all_nil]
      · have h : decide (all.length = t.length) = true := by simpa using h
        simp only [h, nums, rowsS, nodes, zv, bv, sv, nv, VZ, BEq.rfl, seval, -Int.reduceNatCast', kAgg, scD, List.all_cons, List.all_nil]

def okA (n : Nat) (s : Int) : Bool := decide (0 ≤ s) && decide (s < n)
def checkA (t : List Node) (m : List (List Int)) (all : List Int) : Int := if errC t all (!okM m) = 0 then (bif all.all (okA m.length) then 0 else 3) else errC t all (!okM m)
def xAt (t : List Node) (m : List (List Int)) (all : List Int) (v : Nat) : Int := cellAt m (all.getD (parN t v) 0).toNat (all.getD v 0).toNat
/-- the sum of the costs of the nodes 1 .. k -/
def costTo (t : List Node) (m : List (List Int)) (all : List Int) : Nat → Int
  | 0 => 0
  | k + 1 => costTo t m all k + xAt t m all (k + 1)
/-- the nodes 1 .. k have a cost -/
def canTo (t : List Node) (m : List (List Int)) (all : List Int) (k : Nat) : Bool := (List.range k).all fun j => decide (xAt t m all (j + 1) ≠ -1)
def errV (t : List Node) (m : List (List Int)) (all : List Int) : Int := if checkA t m all = 0 then (bif canTo t m all (t.length - 1) then 0 else 5) else checkA t m all
def costV (t : List Node) (m : List (List Int)) (all : List Int) : Int := if errV t m all = 0 then costTo t m all (t.length - 1) else 0

theorem errC_zero {t : List Node} {all : List Int} {w : Bool} (h : errC t all w = 0) : okTree t = true ∧ w = false ∧ all.length = t.length := by
  rw [errC] at h
  cases h1 : okTree t with
  | false => rw [h1] at h; simp at h
  | true =>
    cases w with
    | true => rw [h1] at h; simp at h
    | false =>
      rw [h1] at h
      by_cases hl : all.length = t.length
      · exact ⟨rfl, rfl, hl⟩
      · rw [decide_eq_false hl] at h; simp at h
theorem cost_bd {t : List Node} {m : List (List Int)} {all : List Int} (hm : Mat m) (k : Nat) (hk : k ≤ 63) : -(k : Int) ≤ costTo t m all k ∧ costTo t m all k ≤ k * 1073741824 := by
  induction k with
  | zero => simp [costTo]
  | succ k ih =>
    have h1 := ih (by omega)
    have h2 : -1 ≤ xAt t m all (k + 1) ∧ xAt t m all (k + 1) ≤ 1073741824 := hm.2.2.2 _ _
    rw [costTo]; omega

theorem Cost_ok (t : List Node) (m : List (List Int)) (all : List Int) (hs : Small t) : Ok Try.prog E 17 [.c (nodes t), .c (rowsS m), .c (nums all)] (.tp [zv (costV t m all), zv (errV t m all)]) := by
  refine ok_of_vc (L := []) (ts := [6, 7]) envOK mixed Try.func17 rfl (by kernel_rfl) rfl (by kernel_rfl) rfl fun hl => ?_
  simp only [Try.f17, nums, rowsS, nodes, zv, bv, sv, nv, VZ, BEq.rfl, seval, -Int.reduceNatCast', kAgg, scD, List.all_cons, List.all_nil]
  refine CallX.mk (matrix_ok m) rfl ?_
  simp only [nums, rowsS, nodes, zv, bv, sv, nv, VZ, BEq.rfl, seval, -Int.reduceNatCast', kAgg, scD, List.all_cons, List.all_nil]
  refine CallX.mk (checked_ok t all _ hs) rfl ?_
  by_cases hc : errC t all (!okM m) = 0
  · obtain ⟨ht, hw, hal⟩ := errC_zero hc
    have hok : okM m = true := by simpa using hw
    have hmat := okM_mat hok
    obtain ⟨hn0, hn63⟩ := okTree_len ht
    have hm12 := hmat.2.1
    have hca : checkA t m all = bif all.all (okA m.length) then 0 else 3 := by rw [checkA, if_pos hc]
    have hrow : errC t all false = 0 := by rw [← hw]; exact hc
    simp only [hc, nums, rowsS, nodes, zv, bv, sv, nv, VZ, BEq.rfl, seval, -Int.reduceNatCast', kAgg, scD, List.all_cons, List.all_nil]
    refine LoopVC.mk (Y := Nat) (fun k => k ≤ all.length ∧ (all.take k).all (okA m.length) = true) (fun k => ⟨[(0, .c (nodes t)), (1, .c (rowsS m)), (2, .c (nums all)), (23, .c (nums all)), (24, nv all.length), (25, nv k)], []⟩) (fun k => all.length - k) ⟨0, Enter.id ?_, by omega, rfl⟩ ?_
    · simp only [nums, rowsS, nodes, zv, bv, sv, nv, VZ, BEq.rfl, seval, -Int.reduceNatCast', kAgg, scD, List.all_cons, List.all_nil]
      try rfl
    rintro k ⟨hk, hpre⟩
    simp only [lt_nat, nums, rowsS, nodes, zv, bv, sv, nv, VZ, BEq.rfl, seval, -Int.reduceNatCast', kAgg, scD, List.all_cons, List.all_nil]
    refine guardB.mk (fun h => ?_) (fun h => ?_)
    · have hk' : k < all.length := by simpa using h
      clear h
      have hxb : okA m.length (all.getD k 0) = false → all.all (okA m.length) = false := all_false_at 0 hk'
      have hxg : okA m.length (all.getD k 0) = true → (all.take (k + 1)).all (okA m.length) = true := fun e => by rw [all_take_succ 0 hk', hpre, e]; rfl
      obtain ⟨x, hx⟩ : ∃ x, all.getD k 0 = x := ⟨_, rfl⟩
      rw [hx] at hxb hxg
      simp only [getD_num all k hk', num_def, hx, nums, rowsS, nodes, zv, bv, sv, nv, VZ, BEq.rfl, seval, -Int.reduceNatCast', kAgg, scD, List.all_cons, List.all_nil]
      refine ⟨⟨Int.natCast_nonneg k, hk'⟩, ?_⟩
      refine guardB.mk (fun h => ?_) (fun h => ?_) <;> simp only [h, getD_num all k hk', num_def, hx, nums, rowsS, nodes, zv, bv, sv, nv, VZ, BEq.rfl, seval, -Int.reduceNatCast', kAgg, scD, List.all_cons, List.all_nil]
      · have h : x < 0 := by simpa using h
        rw [hxb (by rw [okA]; rw [decide_eq_false (show ¬ 0 ≤ x by omega)]; rfl)] at hca
        have he : errV t m all = 3 := by rw [errV, hca]; rfl
        simp only [costV, he, nums, rowsS, nodes, zv, bv, sv, nv, VZ, BEq.rfl, seval, -Int.reduceNatCast', kAgg, scD, List.all_cons, List.all_nil]
        try rfl
      have h1 : ¬ x < 0 := by simpa using h
      skip
      refine guardB.mk (fun h => ?_) (fun h => ?_) <;> simp only [h, nums, rowsS, nodes, zv, bv, sv, nv, VZ, BEq.rfl, seval, -Int.reduceNatCast', kAgg, scD, List.all_cons, List.all_nil]
      · have h : (m.length : Int) ≤ x := by simpa using h
        rw [hxb (by rw [okA]; rw [decide_eq_false (show ¬ x < m.length by omega), Bool.and_false])] at hca
        have he : errV t m all = 3 := by rw [errV, hca]; rfl
        simp only [costV, he, nums, rowsS, nodes, zv, bv, sv, nv, VZ, BEq.rfl, seval, -Int.reduceNatCast', kAgg, scD, List.all_cons, List.all_nil]
        try rfl
      have h2 : ¬ (m.length : Int) ≤ x := by simpa using h
      simp only [wrap_nat (k := k) (by omega), nums, rowsS, nodes, zv, bv, sv, nv, VZ, BEq.rfl, seval, -Int.reduceNatCast', kAgg, scD, List.all_cons, List.all_nil]
      refine ⟨k + 1, Enter.id ?_, ⟨by omega, hxg (by rw [okA, decide_eq_true (show 0 ≤ x by omega), decide_eq_true (show x < m.length by omega)]; rfl)⟩, by show all.length - (k + 1) < all.length - k; omega⟩
      simp only [nums, rowsS, nodes, zv, bv, sv, nv, VZ, BEq.rfl, seval, -Int.reduceNatCast', kAgg, scD, List.all_cons, List.all_nil]
    · have hk' : k = all.length := by
        have : ¬ k < all.length := by simpa using h
        omega
      subst hk'
      clear h
      rw [List.take_length] at hpre
      rw [hpre] at hca
      have hca : checkA t m all = 0 := hca
      have herr : errV t m all = bif canTo t m all (t.length - 1) then 0 else 5 := by rw [errV, if_pos hca]
      have hall : ∀ v, v < t.length → 0 ≤ all.getD v 0 ∧ all.getD v 0 < m.length := fun v hv => by
        rw [List.all_eq_true] at hpre
        have := hpre _ (List.getElem_mem (show v < all.length by omega))
        simp only [okA, Bool.and_eq_true, decide_eq_true_eq] at this
        rw [List.getD, List.getElem?_eq_getElem (show v < all.length by omega)]
        exact this
      simp only [nums, rowsS, nodes, zv, bv, sv, nv, VZ, BEq.rfl, seval, -Int.reduceNatCast', kAgg, scD, List.all_cons, List.all_nil]
      refine LoopVC.mk (Y := Nat) (fun k => k + 1 ≤ t.length ∧ canTo t m all k = true) (fun k => ⟨[(0, .c (nodes t)), (1, .c (rowsS m)), (2, .c (nums all)), (11, zv (costTo t m all k)), (12, nv (k + 1))], []⟩) (fun k => t.length - k) ⟨0, Enter.id ?_, by omega, rfl⟩ ?_
      · simp only [nums, rowsS, nodes, zv, bv, sv, nv, VZ, BEq.rfl, seval, -Int.reduceNatCast', kAgg, scD, List.all_cons, List.all_nil]
        exact ⟨rfl, rfl⟩
      rintro k ⟨hk, hcan⟩
      simp only [lt_nat, nums, rowsS, nodes, zv, bv, sv, nv, VZ, BEq.rfl, seval, -Int.reduceNatCast', kAgg, scD, List.all_cons, List.all_nil]
      refine guardB.mk (fun h => ?_) (fun h => ?_)
      · have hk' : k + 1 < t.length := by simpa using h
        clear h
        have hpar := okTree_par ht hk' (by omega)
        have hpx : (t.getD (k + 1) Node.zero).parent = (parN t (k + 1) : Int) := by
          have : (t.getD (k + 1) Node.zero).parent = parOf t (k + 1) := rfl
          rw [parN]; omega
        have hpl : parN t (k + 1) < t.length := by rw [parN]; omega
        have hcs : canTo t m all (k + 1) = (canTo t m all k && decide (xAt t m all (k + 1) ≠ -1)) := all_range_succ
        have ha := hall (parN t (k + 1)) hpl
        have hb := hall (k + 1) hk'
        have hrl := hmat.2.2.1 (all.getD (parN t (k + 1)) 0).toNat (by omega)
        have hbd := cost_bd (t := t) (all := all) hmat k (by omega)
        have hxd : xAt t m all (k + 1) = cellAt m (all.getD (parN t (k + 1)) 0).toNat (all.getD (k + 1) 0).toNat := rfl
        have hct : costTo t m all (k + 1) = costTo t m all k + xAt t m all (k + 1) := rfl
        have hcbad : xAt t m all (k + 1) = -1 → canTo t m all (t.length - 1) = false := fun e => by
          rw [canTo]; exact all_range_false (k := k) (by omega) (decide_eq_false (fun h => h e))
        have hxb : -1 ≤ xAt t m all (k + 1) ∧ xAt t m all (k + 1) ≤ 1073741824 := hmat.2.2.2 _ _
        obtain ⟨x, hx⟩ : ∃ x, xAt t m all (k + 1) = x := ⟨_, rfl⟩
        rw [hx] at hcs hxd hct hcbad hxb
        obtain ⟨a, ha'⟩ : ∃ a : Nat, all.getD (parN t (k + 1)) 0 = (a : Int) := ⟨_, (Int.toNat_of_nonneg ha.1).symm⟩
        obtain ⟨b, hb'⟩ : ∃ b : Nat, all.getD (k + 1) 0 = (b : Int) := ⟨_, (Int.toNat_of_nonneg hb.1).symm⟩
        rw [ha'] at ha hrl hxd
        rw [hb'] at hb hxd
        simp only [Int.toNat_natCast] at hrl hxd
        have hcell : (m.getD a []).getD b 0 = x := hxd.symm
        simp only [getD_node t (k + 1) hk', node_def, hpx, getD_num all (parN t (k + 1)) (by omega), getD_num all (k + 1) (by omega), num_def, ha', hb', getD_rowS m a (by omega), rowS_def, getD_num (m.getD a []) b (by omega), hcell, int_beq, nums, rowsS, nodes, zv, bv, sv, nv, VZ, BEq.rfl, seval, -Int.reduceNatCast', kAgg, scD, List.all_cons, List.all_nil]
        refine ⟨⟨Int.natCast_nonneg _, hk'⟩, ⟨Int.natCast_nonneg _, by omega⟩, ⟨Int.natCast_nonneg _, by omega⟩, ⟨Int.natCast_nonneg _, by omega⟩, ⟨Int.natCast_nonneg _, by omega⟩, ?_⟩
        refine guardB.mk (fun h => ?_) (fun h => ?_) <;> simp only [h, nums, rowsS, nodes, zv, bv, sv, nv, VZ, BEq.rfl, seval, -Int.reduceNatCast', kAgg, scD, List.all_cons, List.all_nil]
        · have h : x = -1 := by simpa using h
          rw [hcbad h] at herr
          have he : errV t m all = 5 := herr
          simp only [costV, he, nums, rowsS, nodes, zv, bv, sv, nv, VZ, BEq.rfl, seval, -Int.reduceNatCast', kAgg, scD, List.all_cons, List.all_nil]
          try rfl
        · have h : x ≠ -1 := by simpa using h
          have hcw : IntKind.i64.wrap (costTo t m all k + x) = costTo t m all (k + 1) := by rw [wrap_in (by omega) (by omega), hct]
          simp only [wrap_nat (k := k + 1) (by omega), hcw, nums, rowsS, nodes, zv, bv, sv, nv, VZ, BEq.rfl, seval, -Int.reduceNatCast', kAgg, scD, List.all_cons, List.all_nil]
          refine ⟨k + 1, Enter.id ?_, ⟨by omega, by rw [hcs, hcan, decide_eq_true h]; rfl⟩, by show t.length - (k + 1) < t.length - k; omega⟩
          simp only [nums, rowsS, nodes, zv, bv, sv, nv, VZ, BEq.rfl, seval, -Int.reduceNatCast', kAgg, scD, List.all_cons, List.all_nil]
      · have hk' : k = t.length - 1 := by
          have : ¬ k + 1 < t.length := by simpa using h
          omega
        rw [← hk', hcan] at herr
        have he : errV t m all = 0 := herr
        simp only [costV, he, if_pos, ← hk', nums, rowsS, nodes, zv, bv, sv, nv, VZ, BEq.rfl, seval, -Int.reduceNatCast', kAgg, scD, List.all_cons, List.all_nil]
  · have h1 : (errC t all (!okM m) != 0) = true := by simpa using hc
    have h2 : checkA t m all = errC t all (!okM m) := by rw [checkA, if_neg hc]
    have h3 : errV t m all = errC t all (!okM m) := by rw [errV, if_neg (by rw [h2]; exact hc), h2]
    simp only [costV, h3, if_neg hc, h1, nums, rowsS, nodes, zv, bv, sv, nv, VZ, BEq.rfl, seval, -Int.reduceNatCast', kAgg, scD, List.all_cons, List.all_nil]

def evTo (t : List Node) (all : List Int) (k : Nat) : List Int := ((List.range k).filter fun v => decide (0 < v ∧ all.getD v 0 ≠ all.getD (parN t v) 0)).map fun (v : Nat) => (v : Int)
def eventsV (t : List Node) (all : List Int) : List Int := if errC t all false = 0 then evTo t all t.length else []
theorem evTo_succ (t : List Node) (all : List Int) (k : Nat) : evTo t all (k + 1) = if 0 < k ∧ all.getD k 0 ≠ all.getD (parN t k) 0 then evTo t all k ++ [(k : Int)] else evTo t all k := by
  rw [evTo, List.range_succ, List.filter_append, List.map_append]
  by_cases h : 0 < k ∧ all.getD k 0 ≠ all.getD (parN t k) 0
  · rw [if_pos h, List.filter_cons_of_pos (by simpa using h)]; simp [evTo]
  · rw [if_neg h, List.filter_cons_of_neg (by simpa using h)]; simp [evTo]
theorem evTo_nums (t : List Node) (all : List Int) (k : Nat) : (evTo t all (k + 1)).map num = if 0 < k ∧ all.getD k 0 ≠ all.getD (parN t k) 0 then (evTo t all k).map num ++ [num k] else (evTo t all k).map num := by
  rw [evTo_succ]; split <;> simp
theorem evTo_len (t : List Node) (all : List Int) (k : Nat) : (evTo t all k).length ≤ k := by
  rw [evTo, List.length_map]
  exact Nat.le_trans (List.length_filter_le _ _) (by simp)

theorem Events_ok (t : List Node) (all : List Int) (hs : Small t) : Ok Try.prog E 18 [.c (nodes t), .c (nums all)] (.tp [.c (nums (eventsV t all)), zv (errC t all false)]) := by
  refine ok_of_vc (L := []) (ts := [4, 5]) envOK mixed Try.func18 rfl (by kernel_rfl) rfl (by kernel_rfl) rfl fun hl => ?_
  simp only [Try.f18, eventsV, nums, rowsS, nodes, zv, bv, sv, nv, VZ, BEq.rfl, seval, -Int.reduceNatCast', kAgg, scD, List.all_cons, List.all_nil]
  refine CallX.mk (checked_ok t all false hs) rfl ?_
  by_cases hc : errC t all false = 0
  · obtain ⟨ht, hw, hal⟩ := errC_zero hc
    obtain ⟨hn0, hn63⟩ := okTree_len ht
    simp only [hc, if_pos, nums, rowsS, nodes, zv, bv, sv, nv, VZ, BEq.rfl, seval, -Int.reduceNatCast', kAgg, scD, List.all_cons, List.all_nil]
    refine LoopVC.mk (Y := Nat) (fun k => 1 ≤ k ∧ k ≤ t.length) (fun k => ⟨[(0, .c (nodes t)), (1, .c (nums all)), (7, .osl 1000 0), (8, nv k)], [(1000, .arr 3 0 ((evTo t all k).map num))]⟩) (fun k => t.length - k) ⟨1, Enter.mk [(7, (1000, 3))] [] [] ?_, by omega⟩ ?_
    · simp only [nums, rowsS, nodes, zv, bv, sv, nv, VZ, BEq.rfl, seval, -Int.reduceNatCast', kAgg, scD, List.all_cons, List.all_nil]
      exact ⟨rfl, ⟨rfl, rfl⟩, rfl⟩
    rintro k ⟨hk1, hk⟩
    simp only [lt_nat, nums, rowsS, nodes, zv, bv, sv, nv, VZ, BEq.rfl, seval, -Int.reduceNatCast', kAgg, scD, List.all_cons, List.all_nil]
    refine guardB.mk (fun h => ?_) (fun h => ?_)
    · have hk' : k < t.length := by simpa using h
      clear h
      have hpar := okTree_par ht hk' hk1
      have hpx : (t.getD k Node.zero).parent = (parN t k : Int) := by
        have : (t.getD k Node.zero).parent = parOf t k := rfl
        rw [parN]; omega
      have hpl : parN t k < t.length := by rw [parN]; omega
      have hlt := evTo_len t all k
      have hnum := evTo_nums t all k
      obtain ⟨a, ha⟩ : ∃ a, all.getD k 0 = a := ⟨_, rfl⟩
      obtain ⟨b, hb⟩ : ∃ b, all.getD (parN t k) 0 = b := ⟨_, rfl⟩
      rw [ha, hb] at hnum
      simp only [getD_node t k hk', node_def, hpx, getD_num all (parN t k) (by omega), getD_num all k (by omega), num_def, ha, hb, bne, int_beq, nums, rowsS, nodes, zv, bv, sv, nv, VZ, BEq.rfl, seval, -Int.reduceNatCast', kAgg, scD, List.all_cons, List.all_nil]
      refine ⟨⟨Int.natCast_nonneg _, by omega⟩, ⟨Int.natCast_nonneg _, by omega⟩, ⟨Int.natCast_nonneg _, by omega⟩, ?_⟩
      refine guardB.mk (fun h => ?_) (fun h => ?_) <;> simp only [h, wrap_nat (k := k) (by omega), nums, rowsS, nodes, zv, bv, sv, nv, VZ, BEq.rfl, seval, -Int.reduceNatCast', kAgg, scD, List.all_cons, List.all_nil]
      · have h : a ≠ b := by simpa using h
        rw [if_pos ⟨by omega, h⟩] at hnum
        refine ⟨⟨by omega, allLen_num [(k : Int)]⟩, k + 1, Enter.mk [] [] [] ?_, by omega, by show t.length - (k + 1) < t.length - k; omega⟩
        simp only [hnum, num_def, nums, rowsS, nodes, zv, bv, sv, nv, VZ, BEq.rfl, seval, -Int.reduceNatCast', kAgg, scD, List.all_cons, List.all_nil]
      · have h : a = b := by simpa using h
        rw [if_neg (fun e => e.2 h)] at hnum
        refine ⟨k + 1, Enter.mk [] [] [] ?_, by omega, by show t.length - (k + 1) < t.length - k; omega⟩
        simp only [hnum, nums, rowsS, nodes, zv, bv, sv, nv, VZ, BEq.rfl, seval, -Int.reduceNatCast', kAgg, scD, List.all_cons, List.all_nil]
    · have hk' : k = t.length := by
        have : ¬ k < t.length := by simpa using h
        omega
      subst hk'
      simp only [nums, rowsS, nodes, zv, bv, sv, nv, VZ, BEq.rfl, seval, -Int.reduceNatCast', kAgg, scD, List.all_cons, List.all_nil]
  · have h1 : (errC t all false != 0) = true := by simpa using hc
    simp only [h1, if_neg hc, nums, rowsS, nodes, zv, bv, sv, nv, VZ, BEq.rfl, seval, -Int.reduceNatCast', kAgg, scD, List.all_cons, List.all_nil]

theorem rCost_ok (t : List Node) (m : List (List Int)) (all : List Int) (hs : Small t) : Ok Try.prog E 38 [.c (nodes t), .c (rowsS m), .c (nums all)] (.tp [zv (costV t m all), zv (errV t m all)]) := by
  refine ok_of_vc (L := []) (ts := [6, 7]) envOK mixed Try.func38 rfl (by kernel_rfl) rfl (by kernel_rfl) rfl fun hl => ?_
  simp only [Try.f38, nums, rowsS, nodes, zv, bv, sv, nv, VZ, BEq.rfl, seval, -Int.reduceNatCast', kAgg, scD, List.all_cons, List.all_nil]
  refine CallX.mk (rcheck_ok t hs) rfl ?_
  cases ht : okTree t with
  | false =>
    have hc : errC t all (!okM m) = 16 := by rw [errC, ht]; rfl
    simp only [errOf_false, nums, rowsS, nodes, zv, bv, sv, nv, VZ, BEq.rfl, seval, -Int.reduceNatCast', kAgg, scD, List.all_cons, List.all_nil]
    have h2 : checkA t m all = 16 := by rw [checkA, hc]; rfl
    have h3 : errV t m all = 16 := by rw [errV, h2]; rfl
    simp only [costV, h3, nums, rowsS, nodes, zv, bv, sv, nv, VZ, BEq.rfl, seval, -Int.reduceNatCast', kAgg, scD, List.all_cons, List.all_nil]
    try rfl
  | true =>
  simp only [errOf_true, nums, rowsS, nodes, zv, bv, sv, nv, VZ, BEq.rfl, seval, -Int.reduceNatCast', kAgg, scD, List.all_cons, List.all_nil]
  refine CallX.mk (Matrix_ok m) rfl ?_
  cases hok : okM m with
  | false =>
    have hc : errC t all (!okM m) = 2 := by rw [errC, ht, hok]; rfl
    simp only [nums, rowsS, nodes, zv, bv, sv, nv, VZ, BEq.rfl, seval, -Int.reduceNatCast', kAgg, scD, List.all_cons, List.all_nil]
    have h2 : checkA t m all = 2 := by rw [checkA, hc]; rfl
    have h3 : errV t m all = 2 := by rw [errV, h2]; rfl
    simp only [costV, h3, nums, rowsS, nodes, zv, bv, sv, nv, VZ, BEq.rfl, seval, -Int.reduceNatCast', kAgg, scD, List.all_cons, List.all_nil]
    try rfl
  | true =>
  have e2 : ((all.length : Int) != (t.length : Int)) = !decide (all.length = t.length) := by
    rw [bne, int_beq]; congr 2; exact propext ⟨fun h => by omega, fun h => by omega⟩
  simp only [e2, nums, rowsS, nodes, zv, bv, sv, nv, VZ, BEq.rfl, seval, -Int.reduceNatCast', kAgg, scD, List.all_cons, List.all_nil]
  refine guardB.mk (fun h => ?_) (fun h => ?_) <;> simp only [h, nums, rowsS, nodes, zv, bv, sv, nv, VZ, BEq.rfl, seval, -Int.reduceNatCast', kAgg, scD, List.all_cons, List.all_nil]
  · have h : decide (all.length = t.length) = false := by simpa using h
    have hc : errC t all (!okM m) = 2 := by rw [errC, ht, hok, h]; rfl
    have h2 : checkA t m all = 2 := by rw [checkA, hc]; rfl
    have h3 : errV t m all = 2 := by rw [errV, h2]; rfl
    simp only [costV, h3, nums, rowsS, nodes, zv, bv, sv, nv, VZ, BEq.rfl, seval, -Int.reduceNatCast', kAgg, scD, List.all_cons, List.all_nil]
    try rfl
  have h : decide (all.length = t.length) = true := by simpa using h
  have hc : errC t all (!okM m) = 0 := by rw [errC, ht, hok, h]; rfl
  obtain ⟨_, hw, hal⟩ := errC_zero hc
  clear h
  have hmat := okM_mat hok
  obtain ⟨hn0, hn63⟩ := okTree_len ht
  have hm12 := hmat.2.1
  have hca : checkA t m all = bif all.all (okA m.length) then 0 else 3 := by rw [checkA, if_pos hc]
  refine LoopVC.mk (Y := Nat) (fun k => k ≤ all.length ∧ (all.take k).all (okA m.length) = true) (fun k => ⟨[(0, .c (nodes t)), (1, .c (rowsS m)), (2, .c (nums all)), (8, nv k)], []⟩) (fun k => all.length - k) ⟨0, Enter.id ?_, by omega, rfl⟩ ?_
  · simp only [nums, rowsS, nodes, zv, bv, sv, nv, VZ, BEq.rfl, seval, -Int.reduceNatCast', kAgg, scD, List.all_cons, List.all_nil]
    try rfl
  rintro k ⟨hk, hpre⟩
  simp only [lt_nat, ← hal,nums, rowsS, nodes, zv, bv, sv, nv, VZ, BEq.rfl, seval, -Int.reduceNatCast', kAgg, scD, List.all_cons, List.all_nil]
  refine guardB.mk (fun h => ?_) (fun h => ?_)
  · have hk' : k < all.length := by simpa using h
    clear h
    have hxb : okA m.length (all.getD k 0) = false → all.all (okA m.length) = false := all_false_at 0 hk'
    have hxg : okA m.length (all.getD k 0) = true → (all.take (k + 1)).all (okA m.length) = true := fun e => by rw [all_take_succ 0 hk', hpre, e]; rfl
    obtain ⟨x, hx⟩ : ∃ x, all.getD k 0 = x := ⟨_, rfl⟩
    rw [hx] at hxb hxg
    simp only [getD_num all k hk', num_def, hx, nums, rowsS, nodes, zv, bv, sv, nv, VZ, BEq.rfl, seval, -Int.reduceNatCast', kAgg, scD, List.all_cons, List.all_nil]
    refine ⟨⟨Int.natCast_nonneg k, hk'⟩, ?_⟩
    refine guardB.mk (fun h => ?_) (fun h => ?_) <;> simp only [h, getD_num all k hk', num_def, hx, nums, rowsS, nodes, zv, bv, sv, nv, VZ, BEq.rfl, seval, -Int.reduceNatCast', kAgg, scD, List.all_cons, List.all_nil]
    · have h : x < 0 := by simpa using h
      rw [hxb (by rw [okA]; rw [decide_eq_false (show ¬ 0 ≤ x by omega)]; rfl)] at hca
      have he : errV t m all = 3 := by rw [errV, hca]; rfl
      simp only [costV, he, nums, rowsS, nodes, zv, bv, sv, nv, VZ, BEq.rfl, seval, -Int.reduceNatCast', kAgg, scD, List.all_cons, List.all_nil]
      try rfl
    have h1 : ¬ x < 0 := by simpa using h
    refine ⟨⟨Int.natCast_nonneg k, hk'⟩, ?_⟩
    refine guardB.mk (fun h => ?_) (fun h => ?_) <;> simp only [h, nums, rowsS, nodes, zv, bv, sv, nv, VZ, BEq.rfl, seval, -Int.reduceNatCast', kAgg, scD, List.all_cons, List.all_nil]
    · have h : (m.length : Int) ≤ x := by simpa using h
      rw [hxb (by rw [okA]; rw [decide_eq_false (show ¬ x < m.length by omega), Bool.and_false])] at hca
      have he : errV t m all = 3 := by rw [errV, hca]; rfl
      simp only [costV, he, nums, rowsS, nodes, zv, bv, sv, nv, VZ, BEq.rfl, seval, -Int.reduceNatCast', kAgg, scD, List.all_cons, List.all_nil]
      try rfl
    have h2 : ¬ (m.length : Int) ≤ x := by simpa using h
    simp only [wrap_nat (k := k) (by omega), nums, rowsS, nodes, zv, bv, sv, nv, VZ, BEq.rfl, seval, -Int.reduceNatCast', kAgg, scD, List.all_cons, List.all_nil]
    refine ⟨k + 1, Enter.id ?_, ⟨by omega, hxg (by rw [okA, decide_eq_true (show 0 ≤ x by omega), decide_eq_true (show x < m.length by omega)]; rfl)⟩, by show all.length - (k + 1) < all.length - k; omega⟩
    simp only [nums, rowsS, nodes, zv, bv, sv, nv, VZ, BEq.rfl, seval, -Int.reduceNatCast', kAgg, scD, List.all_cons, List.all_nil]
  · have hk' : k = all.length := by
      have : ¬ k < all.length := by simpa using h
      omega
    subst hk'
    clear h
    rw [List.take_length] at hpre
    rw [hpre] at hca
    have hca : checkA t m all = 0 := hca
    have herr : errV t m all = bif canTo t m all (t.length - 1) then 0 else 5 := by rw [errV, if_pos hca]
    have hall : ∀ v, v < t.length → 0 ≤ all.getD v 0 ∧ all.getD v 0 < m.length := fun v hv => by
      rw [List.all_eq_true] at hpre
      have := hpre _ (List.getElem_mem (show v < all.length by omega))
      simp only [okA, Bool.and_eq_true, decide_eq_true_eq] at this
      rw [List.getD, List.getElem?_eq_getElem (show v < all.length by omega)]
      exact this
    simp only [nums, rowsS, nodes, zv, bv, sv, nv, VZ, BEq.rfl, seval, -Int.reduceNatCast', kAgg, scD, List.all_cons, List.all_nil]
    refine LoopVC.mk (Y := Nat) (fun k => k + 1 ≤ t.length ∧ canTo t m all k = true) (fun k => ⟨[(0, .c (nodes t)), (1, .c (rowsS m)), (2, .c (nums all)), (9, zv (costTo t m all k)), (10, nv (k + 1))], []⟩) (fun k => t.length - k) ⟨0, Enter.id ?_, by omega, rfl⟩ ?_
    · simp only [nums, rowsS, nodes, zv, bv, sv, nv, VZ, BEq.rfl, seval, -Int.reduceNatCast', kAgg, scD, List.all_cons, List.all_nil]
      exact ⟨rfl, rfl⟩
    rintro k ⟨hk, hcan⟩
    simp only [lt_nat, nums, rowsS, nodes, zv, bv, sv, nv, VZ, BEq.rfl, seval, -Int.reduceNatCast', kAgg, scD, List.all_cons, List.all_nil]
    refine guardB.mk (fun h => ?_) (fun h => ?_)
    · have hk' : k + 1 < t.length := by simpa using h
      clear h
      have hpar := okTree_par ht hk' (by omega)
      have hpx : (t.getD (k + 1) Node.zero).parent = (parN t (k + 1) : Int) := by
        have : (t.getD (k + 1) Node.zero).parent = parOf t (k + 1) := rfl
        rw [parN]; omega
      have hpl : parN t (k + 1) < t.length := by rw [parN]; omega
      have hcs : canTo t m all (k + 1) = (canTo t m all k && decide (xAt t m all (k + 1) ≠ -1)) := all_range_succ
      have ha := hall (parN t (k + 1)) hpl
      have hb := hall (k + 1) hk'
      have hrl := hmat.2.2.1 (all.getD (parN t (k + 1)) 0).toNat (by omega)
      have hbd := cost_bd (t := t) (all := all) hmat k (by omega)
      have hxd : xAt t m all (k + 1) = cellAt m (all.getD (parN t (k + 1)) 0).toNat (all.getD (k + 1) 0).toNat := rfl
      have hct : costTo t m all (k + 1) = costTo t m all k + xAt t m all (k + 1) := rfl
      have hcbad : xAt t m all (k + 1) = -1 → canTo t m all (t.length - 1) = false := fun e => by
        rw [canTo]; exact all_range_false (k := k) (by omega) (decide_eq_false (fun h => h e))
      have hxb : -1 ≤ xAt t m all (k + 1) ∧ xAt t m all (k + 1) ≤ 1073741824 := hmat.2.2.2 _ _
      obtain ⟨x, hx⟩ : ∃ x, xAt t m all (k + 1) = x := ⟨_, rfl⟩
      rw [hx] at hcs hxd hct hcbad hxb
      obtain ⟨a, ha'⟩ : ∃ a : Nat, all.getD (parN t (k + 1)) 0 = (a : Int) := ⟨_, (Int.toNat_of_nonneg ha.1).symm⟩
      obtain ⟨b, hb'⟩ : ∃ b : Nat, all.getD (k + 1) 0 = (b : Int) := ⟨_, (Int.toNat_of_nonneg hb.1).symm⟩
      rw [ha'] at ha hrl hxd
      rw [hb'] at hb hxd
      simp only [Int.toNat_natCast] at hrl hxd
      have hcell : (m.getD a []).getD b 0 = x := hxd.symm
      simp only [getD_node t (k + 1) hk', node_def, hpx, getD_num all (parN t (k + 1)) (by omega), getD_num all (k + 1) (by omega), num_def, ha', hb', getD_rowS m a (by omega), rowS_def, getD_num (m.getD a []) b (by omega), hcell, int_beq, nums, rowsS, nodes, zv, bv, sv, nv, VZ, BEq.rfl, seval, -Int.reduceNatCast', kAgg, scD, List.all_cons, List.all_nil]
      refine ⟨⟨Int.natCast_nonneg _, hk'⟩, ⟨Int.natCast_nonneg _, by omega⟩, ⟨Int.natCast_nonneg _, by omega⟩, ⟨Int.natCast_nonneg _, by omega⟩, ⟨Int.natCast_nonneg _, by omega⟩, ?_⟩
      refine guardB.mk (fun h => ?_) (fun h => ?_) <;> simp only [h, nums, rowsS, nodes, zv, bv, sv, nv, VZ, BEq.rfl, seval, -Int.reduceNatCast', kAgg, scD, List.all_cons, List.all_nil]
      · have h : x = -1 := by (have h1 : x < 0 := (by simpa using h)); omega
        rw [hcbad h] at herr
        have he : errV t m all = 5 := herr
        simp only [costV, he, nums, rowsS, nodes, zv, bv, sv, nv, VZ, BEq.rfl, seval, -Int.reduceNatCast', kAgg, scD, List.all_cons, List.all_nil]
        try rfl
      · have h : x ≠ -1 := by (have h1 : ¬ x < 0 := (by simpa using h)); omega
        have hcw : IntKind.i64.wrap (costTo t m all k + x) = costTo t m all (k + 1) := by rw [wrap_in (by omega) (by omega), hct]
        simp only [wrap_nat (k := k + 1) (by omega), hcw, nums, rowsS, nodes, zv, bv, sv, nv, VZ, BEq.rfl, seval, -Int.reduceNatCast', kAgg, scD, List.all_cons, List.all_nil]
        refine ⟨k + 1, Enter.id ?_, ⟨by omega, by rw [hcs, hcan, decide_eq_true h]; rfl⟩, by show t.length - (k + 1) < t.length - k; omega⟩
        simp only [nums, rowsS, nodes, zv, bv, sv, nv, VZ, BEq.rfl, seval, -Int.reduceNatCast', kAgg, scD, List.all_cons, List.all_nil]
    · have hk' : k = t.length - 1 := by
        have : ¬ k + 1 < t.length := by simpa using h
        omega
      rw [← hk', hcan] at herr
      have he : errV t m all = 0 := herr
      simp only [costV, he, if_pos, ← hk', nums, rowsS, nodes, zv, bv, sv, nv, VZ, BEq.rfl, seval, -Int.reduceNatCast', kAgg, scD, List.all_cons, List.all_nil]

theorem rEvents_ok (t : List Node) (all : List Int) (hs : Small t) : Ok Try.prog E 39 [.c (nodes t), .c (nums all)] (.tp [.c (nums (eventsV t all)), zv (errC t all false)]) := by
  refine ok_of_vc (L := []) (ts := [4, 5]) envOK mixed Try.func39 rfl (by kernel_rfl) rfl (by kernel_rfl) rfl fun hl => ?_
  simp only [Try.f39, nums, rowsS, nodes, zv, bv, sv, nv, VZ, BEq.rfl, seval, -Int.reduceNatCast', kAgg, scD, List.all_cons, List.all_nil]
  refine CallX.mk (rcheck_ok t hs) rfl ?_
  have e2 : ((all.length : Int) != (t.length : Int)) = !decide (all.length = t.length) := by
    rw [bne, int_beq]; congr 2; exact propext ⟨fun h => by omega, fun h => by omega⟩
  cases ht : okTree t with
  | false =>
    have hc : errC t all false = 16 := by rw [errC, ht]; rfl
    simp only [errOf_false, eventsV, hc, nums, rowsS, nodes, zv, bv, sv, nv, VZ, BEq.rfl, seval, -Int.reduceNatCast', kAgg, scD, List.all_cons, List.all_nil]
    try rfl
  | true =>
    simp only [errOf_true, e2, nums, rowsS, nodes, zv, bv, sv, nv, VZ, BEq.rfl, seval, -Int.reduceNatCast', kAgg, scD, List.all_cons, List.all_nil]
    refine guardB.mk (fun h => ?_) (fun h => ?_) <;> simp only [h, nums, rowsS, nodes, zv, bv, sv, nv, VZ, BEq.rfl, seval, -Int.reduceNatCast', kAgg, scD, List.all_cons, List.all_nil]
    · have h : decide (all.length = t.length) = false := by simpa using h
      have hc : errC t all false = 2 := by rw [errC, ht, h]; rfl
      simp only [eventsV, hc, nums, rowsS, nodes, zv, bv, sv, nv, VZ, BEq.rfl, seval, -Int.reduceNatCast', kAgg, scD, List.all_cons, List.all_nil]
      try rfl
    have h : decide (all.length = t.length) = true := by simpa using h
    have hc : errC t all false = 0 := by rw [errC, ht, h]; rfl
    obtain ⟨_, hw, hal⟩ := errC_zero hc
    obtain ⟨hn0, hn63⟩ := okTree_len ht
    simp only [eventsV, hc, if_pos, nums, rowsS, nodes, zv, bv, sv, nv, VZ, BEq.rfl, seval, -Int.reduceNatCast', kAgg, scD, List.all_cons, List.all_nil]
    refine LoopVC.mk (Y := Nat) (fun k => 1 ≤ k ∧ k ≤ t.length) (fun k => ⟨[(0, .c (nodes t)), (1, .c (nums all)), (6, .osl 1000 0), (7, nv k)], [(1000, .arr 3 0 ((evTo t all k).map num))]⟩) (fun k => t.length - k) ⟨1, Enter.mk [(6, (1000, 3))] [] [] ?_, by omega⟩ ?_
    · simp only [nums, rowsS, nodes, zv, bv, sv, nv, VZ, BEq.rfl, seval, -Int.reduceNatCast', kAgg, scD, List.all_cons, List.all_nil]
      exact ⟨rfl, ⟨rfl, rfl⟩, rfl⟩
    rintro k ⟨hk1, hk⟩
    simp only [lt_nat, nums, rowsS, nodes, zv, bv, sv, nv, VZ, BEq.rfl, seval, -Int.reduceNatCast', kAgg, scD, List.all_cons, List.all_nil]
    refine guardB.mk (fun h => ?_) (fun h => ?_)
    · have hk' : k < t.length := by simpa using h
      clear h
      have hpar := okTree_par ht hk' hk1
      have hpx : (t.getD k Node.zero).parent = (parN t k : Int) := by
        have : (t.getD k Node.zero).parent = parOf t k := rfl
        rw [parN]; omega
      have hpl : parN t k < t.length := by rw [parN]; omega
      have hlt := evTo_len t all k
      have hnum := evTo_nums t all k
      obtain ⟨a, ha⟩ : ∃ a, all.getD k 0 = a := ⟨_, rfl⟩
      obtain ⟨b, hb⟩ : ∃ b, all.getD (parN t k) 0 = b := ⟨_, rfl⟩
      rw [ha, hb] at hnum
      simp only [getD_node t k hk', node_def, hpx, getD_num all (parN t k) (by omega), getD_num all k (by omega), num_def, ha, hb, bne, int_beq, nums, rowsS, nodes, zv, bv, sv, nv, VZ, BEq.rfl, seval, -Int.reduceNatCast', kAgg, scD, List.all_cons, List.all_nil]
      refine ⟨⟨Int.natCast_nonneg _, by omega⟩, ⟨Int.natCast_nonneg _, by omega⟩, ⟨Int.natCast_nonneg _, by omega⟩, ?_⟩
      refine guardB.mk (fun h => ?_) (fun h => ?_) <;> simp only [h, wrap_nat (k := k) (by omega), nums, rowsS, nodes, zv, bv, sv, nv, VZ, BEq.rfl, seval, -Int.reduceNatCast', kAgg, scD, List.all_cons, List.all_nil]
      · have h : a ≠ b := by simpa using h
        rw [if_pos ⟨by omega, h⟩] at hnum
        refine ⟨⟨by omega, allLen_num [(k : Int)]⟩, k + 1, Enter.mk [] [] [] ?_, by omega, by show t.length - (k + 1) < t.length - k; omega⟩
        simp only [hnum, num_def, nums, rowsS, nodes, zv, bv, sv, nv, VZ, BEq.rfl, seval, -Int.reduceNatCast', kAgg, scD, List.all_cons, List.all_nil]
      · have h : a = b := by simpa using h
        rw [if_neg (fun e => e.2 h)] at hnum
        refine ⟨k + 1, Enter.mk [] [] [] ?_, by omega, by show t.length - (k + 1) < t.length - k; omega⟩
        simp only [hnum, nums, rowsS, nodes, zv, bv, sv, nv, VZ, BEq.rfl, seval, -Int.reduceNatCast', kAgg, scD, List.all_cons, List.all_nil]
    · have hk' : k = t.length := by
        have : ¬ k < t.length := by simpa using h
        omega
      subst hk'
      simp only [nums, rowsS, nodes, zv, bv, sv, nv, VZ, BEq.rfl, seval, -Int.reduceNatCast', kAgg, scD, List.all_cons, List.all_nil]

end Go.Cp
end

section
set_option linter.unusedVariables false
set_option linter.unusedSimpArgs false
set_option maxHeartbeats 4000000
set_option maxRecDepth 10000
namespace Go.Cp
open Go Go.Proofs Go.Vx

def uv (n : Nat) : AV := .c (.sc (.int .u64 n))
theorem wraps_u64 (n : Int) (h₀ : 0 ≤ n) (h₁ : n < 2 ^ 64) : IntKind.u64.wrap n = n := by rw [IntKind.wrap_u64]; omega
theorem low_u64 (x : Nat) (hx : x < 2 ^ 64) : bits .and .u64 (x : Int) 4294967295 = ((x % 4294967296 : Nat) : Int) := by
  have h := (bits_nat .u64 64 (by decide) wraps_u64 x 4294967295 hx (by decide)).1
  have h : bits .and .u64 (x : Int) 4294967295 = ((x &&& 4294967295 : Nat) : Int) := h
  rw [h, show (4294967295 : Nat) = 2 ^ 32 - 1 from rfl, Nat.and_two_pow_sub_one_eq_mod]
theorem high_u64 (x : Nat) : (x : Int).fdiv 4294967296 = ((x / 4294967296 : Nat) : Int) := by
  rw [Int.fdiv_eq_ediv_of_nonneg _ (by decide)]; rfl

theorem Mul64_ok (x y : Nat) (hx : x < 18446744073709551616) (hy : y < 18446744073709551616) : Ok Try.prog E 37 [uv x, uv y] (.tp [uv (x * y / 18446744073709551616), uv (x * y % 18446744073709551616)]) := by
  refine ok_of_vc (L := []) (ts := [4, 5]) envOK mixed Try.func37 rfl (by kernel_rfl) rfl (by kernel_rfl) rfl fun hl => ?_
  simp only [Try.f37, uv, VL, VB, BEq.rfl, V1, V2, V3, V4, V5, V6, V7, V8, V9, V10, V11, V12, V13, V14, VE, Nat.reduceBEq, Nat.reduceAdd, Nat.reduceSub, Nat.reduceMul, Nat.reduceLeDiff, Nat.reduceLT, Nat.reduceEqDiff, Int.reduceBEq, Int.reduceBNe, Int.reduceLT, Int.reduceLE, Int.reduceAdd, Int.reduceSub, Int.reduceMul, kAgg, scD, List.all_cons, List.all_nil]
  have p32 : (2 : Int) ^ (min (Int.toNat 32) IntKind.u64.bits) = 4294967296 := by decide
  have wm : ∀ a b : Nat, a * b < 18446744073709551616 → IntKind.u64.wrap ((a : Int) * (b : Int)) = ((a * b : Nat) : Int) := fun a b h => by
    rw [← Int.natCast_mul]; exact wraps_u64 _ (Int.natCast_nonneg _) (by omega)
  have wa : ∀ a b : Nat, a + b < 18446744073709551616 → IntKind.u64.wrap ((a : Int) + (b : Int)) = ((a + b : Nat) : Int) := fun a b h => by
    rw [← Int.natCast_add]; exact wraps_u64 _ (Int.natCast_nonneg _) (by omega)
  have hx0 : x % 4294967296 ≤ 4294967295 := by omega
  have hx1 : x / 4294967296 ≤ 4294967295 := by omega
  have hy0 : y % 4294967296 ≤ 4294967295 := by omega
  have hy1 : y / 4294967296 ≤ 4294967295 := by omega
  have hxe : x = x / 4294967296 * 4294967296 + x % 4294967296 := by omega
  have hye : y = y / 4294967296 * 4294967296 + y % 4294967296 := by omega
  have hxy : IntKind.u64.wrap ((x : Int) * (y : Int)) = ((x * y % 18446744073709551616 : Nat) : Int) := by
    rw [← Int.natCast_mul, IntKind.wrap_u64]; omega
  simp only [p32, high_u64, low_u64 x hx, low_u64 y hy, hxy]
  obtain ⟨x0, h1⟩ : ∃ x0, x % 4294967296 = x0 := ⟨_, rfl⟩
  obtain ⟨x1, h2⟩ : ∃ x1, x / 4294967296 = x1 := ⟨_, rfl⟩
  obtain ⟨y0, h3⟩ : ∃ y0, y % 4294967296 = y0 := ⟨_, rfl⟩
  obtain ⟨y1, h4⟩ : ∃ y1, y / 4294967296 = y1 := ⟨_, rfl⟩
  simp only [h1, h2, h3, h4] at hx0 hx1 hy0 hy1 hxe hye ⊢
  have ha := Nat.mul_le_mul hx1 hy1
  have hb := Nat.mul_le_mul hx1 hy0
  have hc := Nat.mul_le_mul hx0 hy1
  have hd := Nat.mul_le_mul hx0 hy0
  have hprod : x * y = x1 * y1 * 18446744073709551616 + (x1 * y0 + x0 * y1) * 4294967296 + x0 * y0 := by
    rw [hxe, hye]
    simp only [Nat.add_mul, Nat.mul_add]
    rw [Nat.mul_assoc x1 4294967296, Nat.mul_left_comm 4294967296 y1, ← Nat.mul_assoc x1 y1, Nat.mul_right_comm x1 4294967296 y0, ← Nat.mul_assoc x0 y1]
    omega
  rw [hprod]
  rw [wm x1 y1 (by omega), wm x1 y0 (by omega), wm x0 y1 (by omega), wm x0 y0 (by omega), high_u64]
  obtain ⟨A, hA⟩ : ∃ A, x1 * y1 = A := ⟨_, rfl⟩
  obtain ⟨B, hB⟩ : ∃ B, x1 * y0 = B := ⟨_, rfl⟩
  obtain ⟨C, hC⟩ : ∃ C, x0 * y1 = C := ⟨_, rfl⟩
  obtain ⟨F, hF⟩ : ∃ F, x0 * y0 = F := ⟨_, rfl⟩
  simp only [hA, hB, hC, hF] at ha hb hc hd ⊢
  rw [wa B (F / 4294967296) (by omega), high_u64, wa A _ (by omega), low_u64 _ (by omega), wa _ C (by omega), high_u64, wa _ _ (by omega)]
  refine ⟨?_, trivial⟩
  congr 3
  omega

def satN (x : Nat) : Nat := if x < 9223372036854775808 then x else 9223372036854775808
theorem plus_ok (a b : Nat) (ha : a ≤ 9223372036854775808) (hb : b ≤ 9223372036854775808) : Ok Try.prog E 55 [uv a, uv b] (uv (satN (a + b))) := by
  refine ok_of_vc (L := []) (ts := [4]) envOK mixed Try.func55 rfl (by kernel_rfl) rfl (by kernel_rfl) rfl fun hl => ?_
  simp only [Try.f55, uv, int_beq, VL, VB, BEq.rfl, V1, V2, V3, V4, V5, V6, V7, V8, V9, V10, V11, V12, V13, V14, VE, Nat.reduceBEq, Nat.reduceAdd, Nat.reduceSub, Nat.reduceMul, Nat.reduceLeDiff, Nat.reduceLT, Nat.reduceEqDiff, Int.reduceBEq, Int.reduceBNe, Int.reduceLT, Int.reduceLE, Int.reduceAdd, Int.reduceSub, Int.reduceMul, kAgg, scD, List.all_cons, List.all_nil]
  refine guardB.mk (fun h => ?_) (fun h => ?_) <;> simp only [h, VL, VB, BEq.rfl, V1, V2, V3, V4, V5, V6, V7, V8, V9, V10, V11, V12, V13, V14, VE, Nat.reduceBEq, Nat.reduceAdd, Nat.reduceSub, Nat.reduceMul, Nat.reduceLeDiff, Nat.reduceLT, Nat.reduceEqDiff, Int.reduceBEq, Int.reduceBNe, Int.reduceLT, Int.reduceLE, Int.reduceAdd, Int.reduceSub, Int.reduceMul, kAgg, scD, List.all_cons, List.all_nil]
  · have h : (b : Int) = 9223372036854775808 := by simpa using h
    have e : satN (a + b) = 9223372036854775808 := by rw [satN, if_neg (by omega)]
    rw [e]; rfl
  · have h : ¬ (b : Int) = 9223372036854775808 := by simpa using h
    rw [wraps_u64 _ (by omega) (by omega)]
    congr 2
    by_cases hs : a + b < 9223372036854775808
    · rw [satN, if_pos hs, decide_eq_false (by omega)]; rfl
    · rw [satN, if_neg hs]
      by_cases hs2 : (9223372036854775808 : Int) < (a : Int) + (b : Int)
      · rw [decide_eq_true hs2]; rfl
      · rw [decide_eq_false hs2]; show (a : Int) + (b : Int) = _; omega

def encW (x : Nat) : Int := if x < 9223372036854775808 then (x : Int) else -1
theorem Plus_ok (a b : Nat) : Ok Try.prog E 69 [zv (encW a), zv (encW b)] (zv (encW (a + b))) := by
  refine ok_of_vc (L := []) (ts := [4]) envOK mixed Try.func69 rfl (by kernel_rfl) rfl (by kernel_rfl) rfl fun hl => ?_
  have hea : encW a = -1 ∧ 9223372036854775808 ≤ a ∨ encW a = a ∧ a < 9223372036854775808 := by rw [encW]; split <;> omega
  have heb : encW b = -1 ∧ 9223372036854775808 ≤ b ∨ encW b = b ∧ b < 9223372036854775808 := by rw [encW]; split <;> omega
  have hes : encW (a + b) = -1 ∧ 9223372036854775808 ≤ a + b ∨ encW (a + b) = (a + b : Nat) ∧ a + b < 9223372036854775808 := by rw [encW]; split <;> omega
  obtain ⟨x, hx⟩ : ∃ x, encW a = x := ⟨_, rfl⟩
  obtain ⟨y, hy⟩ : ∃ y, encW b = y := ⟨_, rfl⟩
  obtain ⟨z, hz⟩ : ∃ z, encW (a + b) = z := ⟨_, rfl⟩
  rw [hx] at hea; rw [hy] at heb; rw [hz] at hes
  simp only [Try.f69, zv, hx, hy, hz, VL, VB, BEq.rfl, V1, V2, V3, V4, V5, V6, V7, V8, V9, V10, V11, V12, V13, V14, VE, Nat.reduceBEq, Nat.reduceAdd, Nat.reduceSub, Nat.reduceMul, Nat.reduceLeDiff, Nat.reduceLT, Nat.reduceEqDiff, Int.reduceBEq, Int.reduceBNe, Int.reduceLT, Int.reduceLE, Int.reduceAdd, Int.reduceSub, Int.reduceMul, kAgg, scD, List.all_cons, List.all_nil]
  refine guardB.mk (fun h => ?_) (fun h => ?_) <;> simp only [h, VL, VB, BEq.rfl, V1, V2, V3, V4, V5, V6, V7, V8, V9, V10, V11, V12, V13, V14, VE, Nat.reduceBEq, Nat.reduceAdd, Nat.reduceSub, Nat.reduceMul, Nat.reduceLeDiff, Nat.reduceLT, Nat.reduceEqDiff, Int.reduceBEq, Int.reduceBNe, Int.reduceLT, Int.reduceLE, Int.reduceAdd, Int.reduceSub, Int.reduceMul, kAgg, scD, List.all_cons, List.all_nil]
  · have h : x < 0 := by simpa using h
    rw [show z = -1 by omega]
  have h1 : ¬ x < 0 := by simpa using h
  refine guardB.mk (fun h => ?_) (fun h => ?_) <;> simp only [h, VL, VB, BEq.rfl, V1, V2, V3, V4, V5, V6, V7, V8, V9, V10, V11, V12, V13, V14, VE, Nat.reduceBEq, Nat.reduceAdd, Nat.reduceSub, Nat.reduceMul, Nat.reduceLeDiff, Nat.reduceLT, Nat.reduceEqDiff, Int.reduceBEq, Int.reduceBNe, Int.reduceLT, Int.reduceLE, Int.reduceAdd, Int.reduceSub, Int.reduceMul, kAgg, scD, List.all_cons, List.all_nil]
  · have h : y < 0 := by simpa using h
    rw [show z = -1 by omega]
  have h2 : ¬ y < 0 := by simpa using h
  have hw : IntKind.i64.wrap (9223372036854775807 - y) = 9223372036854775807 - y := wrap_in (by omega) (by omega)
  simp only [hw, VL, VB, BEq.rfl, V1, V2, V3, V4, V5, V6, V7, V8, V9, V10, V11, V12, V13, V14, VE, Nat.reduceBEq, Nat.reduceAdd, Nat.reduceSub, Nat.reduceMul, Nat.reduceLeDiff, Nat.reduceLT, Nat.reduceEqDiff, Int.reduceBEq, Int.reduceBNe, Int.reduceLT, Int.reduceLE, Int.reduceAdd, Int.reduceSub, Int.reduceMul, kAgg, scD, List.all_cons, List.all_nil]
  refine guardB.mk (fun h => ?_) (fun h => ?_) <;> simp only [h, VL, VB, BEq.rfl, V1, V2, V3, V4, V5, V6, V7, V8, V9, V10, V11, V12, V13, V14, VE, Nat.reduceBEq, Nat.reduceAdd, Nat.reduceSub, Nat.reduceMul, Nat.reduceLeDiff, Nat.reduceLT, Nat.reduceEqDiff, Int.reduceBEq, Int.reduceBNe, Int.reduceLT, Int.reduceLE, Int.reduceAdd, Int.reduceSub, Int.reduceMul, kAgg, scD, List.all_cons, List.all_nil]
  · have h : 9223372036854775807 - y < x := by simpa using h
    rw [show z = -1 by omega]
  have h3 : ¬ 9223372036854775807 - y < x := by simpa using h
  rw [wrap_in (by omega) (by omega), show x + y = z by omega]
theorem Times_ok (a b : Nat) : Ok Try.prog E 83 [zv (encW a), zv (encW b)] (zv (encW (a * b))) := by
  refine ok_of_vc (L := []) (ts := [4]) envOK mixed Try.func83 rfl (by kernel_rfl) rfl (by kernel_rfl) rfl fun hl => ?_
  have hea : encW a = -1 ∧ 9223372036854775808 ≤ a ∨ encW a = a ∧ a < 9223372036854775808 := by rw [encW]; split <;> omega
  have heb : encW b = -1 ∧ 9223372036854775808 ≤ b ∨ encW b = b ∧ b < 9223372036854775808 := by rw [encW]; split <;> omega
  have hes : encW (a * b) = -1 ∧ 9223372036854775808 ≤ a * b ∨ encW (a * b) = (a * b : Nat) ∧ a * b < 9223372036854775808 := by rw [encW]; split <;> omega
  obtain ⟨x, hx⟩ : ∃ x, encW a = x := ⟨_, rfl⟩
  obtain ⟨y, hy⟩ : ∃ y, encW b = y := ⟨_, rfl⟩
  obtain ⟨z, hz⟩ : ∃ z, encW (a * b) = z := ⟨_, rfl⟩
  rw [hx] at hea; rw [hy] at heb; rw [hz] at hes
  simp only [Try.f83, zv, hx, hy, hz, int_beq, VL, VB, BEq.rfl, V1, V2, V3, V4, V5, V6, V7, V8, V9, V10, V11, V12, V13, V14, VE, Nat.reduceBEq, Nat.reduceAdd, Nat.reduceSub, Nat.reduceMul, Nat.reduceLeDiff, Nat.reduceLT, Nat.reduceEqDiff, Int.reduceBEq, Int.reduceBNe, Int.reduceLT, Int.reduceLE, Int.reduceAdd, Int.reduceSub, Int.reduceMul, kAgg, scD, List.all_cons, List.all_nil]
  refine guardB.mk (fun h => ?_) (fun h => ?_) <;> simp only [h, int_beq, VL, VB, BEq.rfl, V1, V2, V3, V4, V5, V6, V7, V8, V9, V10, V11, V12, V13, V14, VE, Nat.reduceBEq, Nat.reduceAdd, Nat.reduceSub, Nat.reduceMul, Nat.reduceLeDiff, Nat.reduceLT, Nat.reduceEqDiff, Int.reduceBEq, Int.reduceBNe, Int.reduceLT, Int.reduceLE, Int.reduceAdd, Int.reduceSub, Int.reduceMul, kAgg, scD, List.all_cons, List.all_nil]
  · have h : x = 0 := by simpa using h
    have ha0 : a = 0 := by omega
    subst ha0
    rw [Nat.zero_mul] at hes
    rw [show z = 0 by omega]
  have h1 : x ≠ 0 := by simpa using h
  refine guardB.mk (fun h => ?_) (fun h => ?_) <;> simp only [h, VL, VB, BEq.rfl, V1, V2, V3, V4, V5, V6, V7, V8, V9, V10, V11, V12, V13, V14, VE, Nat.reduceBEq, Nat.reduceAdd, Nat.reduceSub, Nat.reduceMul, Nat.reduceLeDiff, Nat.reduceLT, Nat.reduceEqDiff, Int.reduceBEq, Int.reduceBNe, Int.reduceLT, Int.reduceLE, Int.reduceAdd, Int.reduceSub, Int.reduceMul, kAgg, scD, List.all_cons, List.all_nil]
  · have h : y = 0 := by simpa using h
    have hb0 : b = 0 := by omega
    subst hb0
    rw [Nat.mul_zero] at hes
    rw [show z = 0 by omega]
  have h2 : y ≠ 0 := by simpa using h
  have hap : 1 ≤ a := by omega
  have hbp : 1 ≤ b := by omega
  have hma := Nat.mul_le_mul_left a hbp
  have hmb := Nat.mul_le_mul_right b hap
  refine guardB.mk (fun h => ?_) (fun h => ?_) <;> simp only [h, VL, VB, BEq.rfl, V1, V2, V3, V4, V5, V6, V7, V8, V9, V10, V11, V12, V13, V14, VE, Nat.reduceBEq, Nat.reduceAdd, Nat.reduceSub, Nat.reduceMul, Nat.reduceLeDiff, Nat.reduceLT, Nat.reduceEqDiff, Int.reduceBEq, Int.reduceBNe, Int.reduceLT, Int.reduceLE, Int.reduceAdd, Int.reduceSub, Int.reduceMul, kAgg, scD, List.all_cons, List.all_nil]
  · have h : x < 0 := by simpa using h
    rw [show z = -1 by omega]
  have h3 : ¬ x < 0 := by simpa using h
  refine guardB.mk (fun h => ?_) (fun h => ?_) <;> simp only [h, VL, VB, BEq.rfl, V1, V2, V3, V4, V5, V6, V7, V8, V9, V10, V11, V12, V13, V14, VE, Nat.reduceBEq, Nat.reduceAdd, Nat.reduceSub, Nat.reduceMul, Nat.reduceLeDiff, Nat.reduceLT, Nat.reduceEqDiff, Int.reduceBEq, Int.reduceBNe, Int.reduceLT, Int.reduceLE, Int.reduceAdd, Int.reduceSub, Int.reduceMul, kAgg, scD, List.all_cons, List.all_nil]
  · have h : y < 0 := by simpa using h
    rw [show z = -1 by omega]
  have h4 : ¬ y < 0 := by simpa using h
  have hxa : x = (a : Int) := by omega
  have hyb : y = (b : Int) := by omega
  have hq : Int.tdiv 9223372036854775807 y = ((9223372036854775807 / b : Nat) : Int) := by rw [hyb]; rfl
  have hql : 9223372036854775807 / b ≤ 9223372036854775807 := Nat.div_le_self _ _
  have hqa := Nat.div_lt_iff_lt_mul (x := 9223372036854775807) (y := a) (k := b) (by omega)
  obtain ⟨q, hqe⟩ : ∃ q, 9223372036854775807 / b = q := ⟨_, rfl⟩
  rw [hqe] at hq hql hqa
  have hw : IntKind.i64.wrap (q : Int) = (q : Int) := wrap_in (by omega) (by omega)
  refine ⟨h2, ?_⟩
  simp only [hq, hw, VL, VB, BEq.rfl, V1, V2, V3, V4, V5, V6, V7, V8, V9, V10, V11, V12, V13, V14, VE, Nat.reduceBEq, Nat.reduceAdd, Nat.reduceSub, Nat.reduceMul, Nat.reduceLeDiff, Nat.reduceLT, Nat.reduceEqDiff, Int.reduceBEq, Int.reduceBNe, Int.reduceLT, Int.reduceLE, Int.reduceAdd, Int.reduceSub, Int.reduceMul, kAgg, scD, List.all_cons, List.all_nil]
  refine guardB.mk (fun h => ?_) (fun h => ?_) <;> simp only [h, VL, VB, BEq.rfl, V1, V2, V3, V4, V5, V6, V7, V8, V9, V10, V11, V12, V13, V14, VE, Nat.reduceBEq, Nat.reduceAdd, Nat.reduceSub, Nat.reduceMul, Nat.reduceLeDiff, Nat.reduceLT, Nat.reduceEqDiff, Int.reduceBEq, Int.reduceBNe, Int.reduceLT, Int.reduceLE, Int.reduceAdd, Int.reduceSub, Int.reduceMul, kAgg, scD, List.all_cons, List.all_nil]
  · have h : (q : Int) < x := of_decide_eq_true h
    have h5 : 9223372036854775807 < a * b := hqa.1 (by omega)
    rw [show z = -1 by omega]
  have h : ¬ (q : Int) < x := of_decide_eq_false h
  have h5 : ¬ 9223372036854775807 < a * b := fun e => h (by have := hqa.2 e; omega)
  have hz : z = (a * b : Nat) := by omega
  rw [hxa, hyb, ← Int.natCast_mul, wrap_in (by omega) (by omega), hz]

end Go.Cp
end
