/-
  Sankoff: how many cheapest assignments there are below a node, as a number without a bound; what is kept of it. Plain. Conditions: none.
  Sankoff: how many cheapest assignments there are. Conditions: none.
  Sankoff: comparisons, copies, small cases. Conditions: none.
  Sankoff: small cases, copies of cases, equal cases. Conditions: none.
  Sankoff: the example works. Conditions: none.
  Sankoff: the arguments of the laws as data. Conditions: none.
-/
import Derived.Test.YtfalggfambgkeaaMG
import Derived.Test.YtfalggfambgkeaaMD

section
set_option linter.unusedVariables false
set_option linter.unusedSimpArgs false
set_option maxHeartbeats 4000000
set_option maxRecDepth 10000
namespace Go.Cp
open Go Go.Proofs Go.Vx

abbrev FnW := Nat → Nat → Nat
theorem satN_add (a b : Nat) : satN (satN a + satN b) = satN (a + b) := by
  simp only [satN]; split <;> split <;> split <;> first | omega | (split <;> omega) | skip
theorem satN_le (a : Nat) : satN a ≤ 9223372036854775808 := by rw [satN]; split <;> omega
theorem satN_self (a : Nat) : satN (satN a) = satN a := by simp only [satN]; split <;> simp_all
theorem satN_ge {a b : Nat} (h : a ≤ b) (ha : 9223372036854775808 ≤ a) : satN b = 9223372036854775808 := by rw [satN, if_neg (by omega)]
theorem satN_mul (a b : Nat) : satN (satN a * satN b) = satN (a * b) := by
  have key : ∀ a b : Nat, satN (satN a * b) = satN (a * b) := fun a b => by
    by_cases ha : a < 9223372036854775808
    · rw [show satN a = a by rw [satN, if_pos ha]]
    · rw [show satN a = 9223372036854775808 by rw [satN, if_neg ha]]
      rcases Nat.eq_zero_or_pos b with rfl | hb
      · simp
      · have h1 := Nat.mul_le_mul_left 9223372036854775808 (show 1 ≤ b from hb)
        have h2 := Nat.mul_le_mul_right b (show 9223372036854775808 ≤ a by omega)
        rw [satN_ge (Nat.le_refl _) (by omega), satN_ge (Nat.le_refl _) (by omega)]
  rw [key, Nat.mul_comm, key, Nat.mul_comm]

/-- is state b of node v the cheapest choice, if its parent has the state s? -/
def isBest (m : List (List Int)) (F : Fn2) (v s b : Nat) : Prop := underF m F v s ≠ -1 ∧ stepF m F v s b = underF m F v s
instance (m : List (List Int)) (F : Fn2) (v s b : Nat) : Decidable (isBest m F v s b) := inferInstanceAs (Decidable (_ ∧ _))
def swTo (m : List (List Int)) (F : Fn2) (v s : Nat) (w : Nat → Nat) : Nat → Nat
  | 0 => 0
  | k + 1 => swTo m F v s w k + if isBest m F v s k then w k else 0
def wayR (m : List (List Int)) (F : Fn2) (W : FnW) (v up j : Nat) : FnW := fun u s => if u = up ∧ s < j then W up s * swTo m F v s (W v) m.length else W u s
def way0 (ns : Nat) : FnW := fun v s => if s < ns then 1 else 0
def wayF (t : List Node) (m : List (List Int)) (F : Fn2) : Nat → FnW
  | 0 => way0 m.length
  | k + 1 => wayR m F (wayF t m F k) (t.length - 1 - k) (parN t (t.length - 1 - k)) m.length
def updW (F : FnW) (v s : Nat) (x : Nat) : FnW := fun u r => if u = v ∧ r = s then x else F u r
theorem wayR_zero (m : List (List Int)) (F : Fn2) (W : FnW) (v up : Nat) : wayR m F W v up 0 = W := by
  funext u s; rw [wayR, if_neg (by omega)]
theorem wayR_row {m : List (List Int)} {F : Fn2} {W : FnW} {v up j : Nat} (h : v ≠ up) : wayR m F W v up j v = W v := by
  funext s; rw [wayR, if_neg (fun e => h e.1)]
theorem wayR_at {m : List (List Int)} {F : Fn2} {W : FnW} {v up j : Nat} : wayR m F W v up j up j = W up j := by rw [wayR, if_neg (by omega)]
theorem wayR_succ {m : List (List Int)} {F : Fn2} {W : FnW} {v up j : Nat} : wayR m F W v up (j + 1) = updW (wayR m F W v up j) up j (W up j * swTo m F v j (W v) m.length) := by
  funext u s
  simp only [wayR, updW]
  by_cases hu : u = up ∧ s = j
  · obtain ⟨rfl, rfl⟩ := hu
    rw [if_pos ⟨rfl, by omega⟩, if_pos ⟨rfl, rfl⟩]
  · rw [if_neg hu]
    by_cases hc : u = up ∧ s < j
    · rw [if_pos hc, if_pos ⟨hc.1, by omega⟩]
    · rw [if_neg hc, if_neg]
      rintro ⟨a, b⟩
      rcases Nat.lt_succ_iff_lt_or_eq.1 b with b | b
      · exact hc ⟨a, b⟩
      · exact hu ⟨a, b⟩

/-! the table as it lies in memory -/
def rowU (r : List Nat) : List D := r.map fun (n : Nat) => D.sc (.int .u64 (n : Int))
def tabW (n : Nat) (F : FnW) : List (List Nat) := (List.range n).map fun v => (List.range 12).map fun s => satN (F v s)
theorem tabW_len (n : Nat) (F : FnW) : (tabW n F).length = n := by simp [tabW]
theorem tabW_row {n : Nat} {F : FnW} {v : Nat} (h : v < n) : (tabW n F).getD v [] = (List.range 12).map fun s => satN (F v s) := by
  simp [tabW, List.getD, h]
theorem getD_rowU (xs : List (List Nat)) (k : Nat) (h : k < xs.length) : (xs.map rowU).getD k [] = rowU (xs.getD k []) := by
  simp [List.getD, List.getElem?_map, List.getElem?_eq_getElem h]
theorem rowW_len {n : Nat} {F : FnW} {v : Nat} (hv : v < n) : (((tabW n F).map rowU).getD v []).length = 12 := by
  rw [getD_rowU _ v (by rw [tabW_len]; exact hv), tabW_row hv]; simp [rowU]
theorem dropW {n : Nat} {F : FnW} {v s : Nat} (hv : v < n) (hs : s < 12) : (((tabW n F).map rowU).getD v []).drop (s * 1) = .sc (.int .u64 (satN (F v s))) :: (rowU ((tabW n F).getD v [])).drop (s + 1) := by
  rw [getD_rowU _ v (by rw [tabW_len]; exact hv), Nat.mul_one, tabW_row hv, List.drop_eq_getElem_cons (by rw [rowU, List.length_map]; simpa using hs)]
  simp [rowU]
theorem setW {n : Nat} {F : FnW} {v s x : Nat} (hv : v < n) (hs : s < 12) :
    ((tabW n F).map rowU).set v (List.take (s * 1) (((tabW n F).map rowU).getD v []) ++ D.sc (.int .u64 (satN x)) :: List.drop (s * 1 + 1) (((tabW n F).map rowU).getD v [])) = (tabW n (updW F v s x)).map rowU := by
  rw [getD_rowU _ v (by rw [tabW_len]; exact hv), tabW_row hv, Nat.mul_one]
  refine List.ext_getElem (by simp [tabW]) fun i h1 h2 => ?_
  simp only [List.getElem_set, List.getElem_map, tabW, List.getElem_range]
  by_cases hi : v = i
  · subst hi
    rw [if_pos rfl]
    have e1 : (rowU ((List.range 12).map fun s => satN (F v s))).set s (.sc (.int .u64 (satN x))) = rowU ((List.range 12).map fun r => satN (updW F v s x v r)) := by
      refine List.ext_getElem (by simp [rowU]) fun j h3 h4 => ?_
      simp only [rowU, List.getElem_set, List.getElem_map, List.getElem_range, updW]
      by_cases hj : s = j
      · subst hj; simp
      · rw [if_neg hj, if_neg (fun h => hj h.2.symm)]
    rw [← e1, List.set_eq_take_append_cons_drop, if_pos (by simpa [rowU] using hs)]
  · rw [if_neg hi]
    congr 1
    refine List.map_congr_left fun j _ => ?_
    rw [updW, if_neg (fun h => hi h.1.symm)]
theorem tabW_zero (n : Nat) : (tabW n (fun _ _ => 0)).map rowU = List.replicate n (List.replicate 12 (D.sc (.int .u64 0))) := by
  refine List.ext_getElem (by simp [tabW]) fun i h1 h2 => ?_
  simp [tabW, rowU, satN]
  rfl
/-- the rows from 0 to v - 1 are set to 1, and of row v the first j -/
def oneTo (ns v j : Nat) : FnW := fun u s => if (u < v ∧ s < ns) ∨ (u = v ∧ s < j) then 1 else 0
theorem oneTo_succ {ns v j : Nat} : oneTo ns v (j + 1) = updW (oneTo ns v j) v j 1 := by
  funext u s
  simp only [oneTo, updW]
  by_cases h : u = v ∧ s = j
  · rw [if_pos h, if_pos (.inr ⟨h.1, by omega⟩)]
  · rw [if_neg h]
    by_cases hc : (u < v ∧ s < ns) ∨ (u = v ∧ s < j)
    · rw [if_pos hc, if_pos (by omega)]
    · rw [if_neg hc, if_neg (by omega)]
theorem oneTo_next {ns v : Nat} : oneTo ns v ns = oneTo ns (v + 1) 0 := by
  funext u s
  simp only [oneTo]
  by_cases hc : (u < v ∧ s < ns) ∨ (u = v ∧ s < ns)
  · rw [if_pos hc, if_pos (by omega)]
  · rw [if_neg hc, if_neg (by omega)]
theorem oneTo_all {n ns : Nat} : tabW n (oneTo ns n 0) = tabW n (way0 ns) := by
  refine List.map_congr_left fun v hv => List.map_congr_left fun s hs => ?_
  have hv : v < n := by simpa using hv
  rw [oneTo, way0]
  by_cases h : s < ns
  · rw [if_pos (.inl ⟨hv, h⟩), if_pos h]
  · rw [if_neg (by omega), if_neg h]

/-! how many there are -/
def cntTo (c : Nat → Int) (x : Int) (w : Nat → Nat) : Nat → Nat
  | 0 => 0
  | k + 1 => cntTo c x w k + if c k = x then w k else 0
theorem cntTo_succ (c : Nat → Int) (x : Int) (w : Nat → Nat) (k : Nat) : cntTo c x w (k + 1) = cntTo c x w k + if c k = x then w k else 0 := rfl
theorem swTo_succ (m : List (List Int)) (F : Fn2) (v s : Nat) (w : Nat → Nat) (k : Nat) : swTo m F v s w (k + 1) = swTo m F v s w k + if isBest m F v s k then w k else 0 := rfl
/-- the number of cheapest assignments -/
def waysN (t : List Node) (m : List (List Int)) (st : List Int) : Nat := cntTo (solF t m st 0) (rootP t m st).1 (wayF t m (solF t m st) (t.length - 1) 0) m.length
def errW (t : List Node) (m : List (List Int)) (st : List Int) : Int := if errP t m st = 0 then (if waysN t m st < 9223372036854775808 then 0 else 7) else errP t m st
def waysV (t : List Node) (m : List (List Int)) (st : List Int) : Int := if errW t m st = 0 then (waysN t m st : Int) else 0

end Go.Cp
end

section
set_option linter.unusedVariables false
set_option linter.unusedSimpArgs false
set_option maxHeartbeats 4000000
set_option maxRecDepth 10000
namespace Go.Cp
open Go Go.Proofs Go.Vx

theorem tabW_congr {n : Nat} {F : FnW} {v s x y : Nat} (h : satN x = satN y) : tabW n (updW F v s x) = tabW n (updW F v s y) := by
  refine List.map_congr_left fun u _ => List.map_congr_left fun r _ => ?_
  simp only [updW]; split
  · exact h
  · rfl
theorem updW_twice {F : FnW} {v s x y : Nat} : updW (updW F v s x) v s y = updW F v s y := by
  funext u r; simp only [updW]; split <;> rfl
theorem setWi {n : Nat} {F : FnW} {v s x : Nat} {z : Int} (hz : z = (satN x : Nat)) (hv : v < n) (hs : s < 12) :
    ((tabW n F).map rowU).set v (List.take (s * 1) (((tabW n F).map rowU).getD v []) ++ D.sc (.int .u64 z) :: List.drop (s * 1 + 1) (((tabW n F).map rowU).getD v [])) = (tabW n (updW F v s x)).map rowU := by
  rw [hz]; exact setW hv hs

theorem Ways_ok (t : List Node) (m : List (List Int)) (st : List Int) (hs : Small t) : Ok Try.prog E 24 [.c (nodes t), .c (rowsS m), .c (nums st)] (.tp [zv (waysV t m st), zv (errW t m st)]) := by
  refine ok_of_vc (L := []) (ts := [6, 7]) envOK mixed Try.func24 rfl (by kernel_rfl) rfl (by kernel_rfl) rfl fun hl => ?_
  simp only [Try.f24, nums, rowsS, nodes, zv, bv, sv, nv, uv, VZ, BEq.rfl, seval, -Int.reduceNatCast', kAgg, scD, List.all_cons, List.all_nil]
  by_cases h : ¬ errP t m st = 0
  · have h1 : (errP t m st != 0) = true := by simpa using h
    have h2 : errW t m st = errP t m st := by rw [errW, if_neg h]
    refine CallX.mk (possible_bad t m st hs h) rfl ?_
    simp only [waysV, h2, h1, if_neg h, nums, rowsS, nodes, zv, bv, sv, nv, uv, VZ, BEq.rfl, seval, -Int.reduceNatCast', kAgg, scD, List.all_cons, List.all_nil]
  have h : errP t m st = 0 := Decidable.not_not.1 h
  have herrW : errW t m st = if waysN t m st < 9223372036854775808 then 0 else 7 := by rw [errW, if_pos h]
  have hr := (errP_zero h).2
  have g := good_of (errP_zero h).1
  have hm12 := g.mat.2.1
  have hn0 := g.n0
  have hn63 := g.n63
  refine CallX.mk (possible_ok t m st hs h) rfl ?_
  simp only [costsD, nums, rowsS, nodes, zv, bv, sv, nv, uv, VZ, BEq.rfl, seval, -Int.reduceNatCast', kAgg, scD, List.all_cons, List.all_nil]
  refine ⟨⟨by omega, by omega⟩, ?_⟩
  have hz := tabW_zero t.length
  refine LoopVC.mk (Y := Nat) (fun v => v ≤ t.length) (fun v => ⟨[(3, .bp 3 0), (4, .bp 4 0), (8, .bp 8 0), (10, .bp 10 0), (40, nv t.length), (41, nv v)], [(3, .cells [.c (nodes t)]), (4, .cells [.c (rowsS m)]), (8, .cells [.c (nodes t), .c (rowsS m), .c (costsD (tabOf t.length (solF t m st)))]), (10, .cells [.osl 38 0]), (38, .arr 78 0 ((tabW t.length (oneTo m.length v 0)).map rowU))]⟩) (fun v => t.length - v) ⟨0, Enter.mk [] [] [] ?_, by omega⟩ ?_
  · have h0 : tabW t.length (oneTo m.length 0 0) = tabW t.length (fun _ _ => 0) := by
      congr 1
      funext u s; rw [oneTo, if_neg (by omega)]
    simp only [h0, hz, List.replicate, List.length_replicate, costsD, nums, rowsS, nodes, zv, bv, sv, nv, uv, VZ, BEq.rfl, seval, -Int.reduceNatCast', kAgg, scD, List.all_cons, List.all_nil]
    try rfl
  intro v hv
  simp only [lt_nat, costsD, nums, rowsS, nodes, zv, bv, sv, nv, uv, VZ, BEq.rfl, seval, -Int.reduceNatCast', kAgg, scD, List.all_cons, List.all_nil]
  refine guardB.mk (fun h => ?_) (fun h => ?_)
  · have hv' : v < t.length := by simpa using h
    clear h
    simp only [nums, rowsS, nodes, zv, bv, sv, nv, uv, VZ, BEq.rfl, seval, -Int.reduceNatCast', kAgg, scD, List.all_cons, List.all_nil]
    refine LoopVC.mk (Y := Nat) (fun j => j ≤ m.length) (fun j => ⟨[(3, .bp 3 0), (4, .bp 4 0), (8, .bp 8 0), (10, .bp 10 0), (40, nv t.length), (41, nv v), (11, nv v), (45, nv m.length), (46, nv j)], [(3, .cells [.c (nodes t)]), (4, .cells [.c (rowsS m)]), (8, .cells [.c (nodes t), .c (rowsS m), .c (costsD (tabOf t.length (solF t m st)))]), (10, .cells [.osl 38 0]), (38, .arr 78 0 ((tabW t.length (oneTo m.length v j)).map rowU))]⟩) (fun j => m.length - j) ⟨0, Enter.mk [] [] [] ?_, by omega⟩ ?_
    · simp only [costsD, nums, rowsS, nodes, zv, bv, sv, nv, uv, VZ, BEq.rfl, seval, -Int.reduceNatCast', kAgg, scD, List.all_cons, List.all_nil]
      try rfl
    intro j hj
    simp only [lt_nat, costsD, nums, rowsS, nodes, zv, bv, sv, nv, uv, VZ, BEq.rfl, seval, -Int.reduceNatCast', kAgg, scD, List.all_cons, List.all_nil]
    refine guardB.mk (fun h => ?_) (fun h => ?_)
    · have hj' : j < m.length := by simpa using h
      clear h
      have hj12 : j < 12 := by omega
      simp only [setWi (z := 1) (x := 1) rfl hv' hj12, ← oneTo_succ, tabW_len, rowW_len hv', wrap_nat (k := j) (by omega), nums, rowsS, nodes, zv, bv, sv, nv, uv, VZ, BEq.rfl, seval, -Int.reduceNatCast', kAgg, scD, List.all_cons, List.all_nil]
      refine ⟨Int.natCast_nonneg v, hv', ⟨Int.natCast_nonneg j, hj12⟩, ⟨hv', by omega⟩, j + 1, Enter.mk [] [] [] ?_, by omega, by show m.length - (j + 1) < m.length - j; omega⟩
      simp only [nums, rowsS, nodes, zv, bv, sv, nv, uv, VZ, BEq.rfl, seval, -Int.reduceNatCast', kAgg, scD, List.all_cons, List.all_nil]
    · have hj' : j = m.length := by
        have : ¬ j < m.length := by simpa using h
        omega
      subst hj'
      simp only [wrap_nat (k := v) (by omega), nums, rowsS, nodes, zv, bv, sv, nv, uv, VZ, BEq.rfl, seval, -Int.reduceNatCast', kAgg, scD, List.all_cons, List.all_nil]
      refine ⟨v + 1, Enter.mk [] [] [] ?_, by omega, by show t.length - (v + 1) < t.length - v; omega⟩
      simp only [oneTo_next, nums, rowsS, nodes, zv, bv, sv, nv, uv, VZ, BEq.rfl, seval, -Int.reduceNatCast', kAgg, scD, List.all_cons, List.all_nil]
  have hv' : v = t.length := by
    have : ¬ v < t.length := by simpa using h
    omega
  subst hv'
  clear h
  simp only [oneTo_all, nums, rowsS, nodes, zv, bv, sv, nv, uv, VZ, BEq.rfl, seval, -Int.reduceNatCast', kAgg, scD, List.all_cons, List.all_nil]
  refine CallX.mut (CallMVC.mk [] [(2001, 57)] (backwards_ok t) ?_ ?_)
  · simp only [nums, rowsS, nodes, zv, bv, sv, nv, uv, VZ, BEq.rfl, seval, -Int.reduceNatCast', kAgg, scD, List.all_cons, List.all_nil]
  simp only [nums, rowsS, nodes, zv, bv, sv, nv, uv, VZ, BEq.rfl, seval, -Int.reduceNatCast', kAgg, scD, List.all_cons, List.all_nil]
  have hTab := g.tab
  have hlst : ∀ v a, v < t.length → bestTo (stepI m (tabOf t.length (solF t m st)) v a) m.length = bestTo (stepF m (solF t m st) v a) m.length := fun v a hv => g.least hv
  have hstp : ∀ v a b, v < t.length → b < m.length → stepI m (tabOf t.length (solF t m st)) v a b = stepF m (solF t m st) v a b := fun v a b hv hb => by
    rw [stepI, stepF, tabOf_cell hv (by omega)]
  have hrootc := g.root
  have hwn : waysN t m st = cntTo (solF t m st 0) (rootP t m st).1 (wayF t m (solF t m st) (t.length - 1) 0) m.length := rfl
  obtain ⟨F, hF⟩ : ∃ F, solF t m st = F := ⟨_, rfl⟩
  rw [hF] at hTab hrootc hwn
  simp only [hF] at hlst hstp
  simp only [hF]
  refine RangeVC.mk (Y := Nat) [(2001, 57)] [] [] (back_seq t hn63) (fun k y => y = k ∧ k + 1 ≤ t.length) (fun k => ⟨[(3, .bp 3 0), (4, .bp 4 0), (8, .bp 8 0), (10, .bp 10 0)], [(3, .cells [.c (nodes t)]), (4, .cells [.c (rowsS m)]), (8, .cells [.c (nodes t), .c (rowsS m), .c (costsD (tabOf t.length F))]), (10, .cells [.osl 38 0]), (38, .arr 78 0 ((tabW t.length (wayF t m F k)).map rowU))]⟩) rfl ?_ ?_ ⟨0, ?_, rfl, by omega⟩ ?_ ?_
  · simp only [nums, rowsS, nodes, zv, bv, sv, nv, uv, VZ, BEq.rfl, seval, -Int.reduceNatCast', kAgg, scD, List.all_cons, List.all_nil]
  · intro e he
    simp only [backL, List.mem_map] at he
    obtain ⟨i, _, rfl⟩ := he
    try rfl
  · simp only [wayF, costsD, nums, rowsS, nodes, zv, bv, sv, nv, uv, VZ, BEq.rfl, seval, -Int.reduceNatCast', kAgg, scD, List.all_cons, List.all_nil]
  · rintro k e y he ⟨rfl, hk⟩
    rw [backL_get (by omega)] at he
    injection he with he
    subst he
    simp only [costsD, nums, rowsS, nodes, zv, bv, sv, nv, uv, VZ, BEq.rfl, seval, -Int.reduceNatCast', kAgg, scD, List.all_cons, List.all_nil]
    obtain ⟨v, hv⟩ : ∃ v, v = t.length - 1 - y := ⟨_, rfl⟩
    have hvi : (t.length : Int) - 1 - (y : Int) = (v : Int) := by omega
    have hvn : v < t.length := by omega
    have e0 : ((v : Int) == 0) = decide (v = 0) := by rw [int_beq]; congr 1; exact propext ⟨fun h => by omega, fun h => by omega⟩
    simp only [hvi, e0, nums, rowsS, nodes, zv, bv, sv, nv, uv, VZ, BEq.rfl, seval, -Int.reduceNatCast', kAgg, scD, List.all_cons, List.all_nil]
    refine guardB.mk (fun h => ?_) (fun h => ?_) <;> simp only [h, nums, rowsS, nodes, zv, bv, sv, nv, uv, VZ, BEq.rfl, seval, -Int.reduceNatCast', kAgg, scD, List.all_cons, List.all_nil]
    · have h : v = 0 := by simpa using h
      have hy : t.length - 1 = y := by omega
      rw [hy] at hwn
      obtain ⟨W, hW⟩ : ∃ W, wayF t m F y = W := ⟨_, rfl⟩
      rw [hW] at hwn
      simp only [hW]
      refine CallX.mk (root_ok t m _ _ g.mat hTab hn0) rfl ?_
      obtain ⟨x, hx⟩ : ∃ x, rootP t m st = x := ⟨_, rfl⟩
      obtain ⟨x, x2⟩ := x
      rw [hx] at hrootc hwn
      simp only [hrootc, nums, rowsS, nodes, zv, bv, sv, nv, uv, VZ, BEq.rfl, seval, -Int.reduceNatCast', kAgg, scD, List.all_cons, List.all_nil]
      refine LoopVC.mk (Y := Nat) (fun k => k ≤ m.length) (fun k => ⟨[(8, .bp 8 0), (10, .bp 10 0), (22, zv x), (24, uv (satN (cntTo (F 0) x (W 0) k))), (130, nv m.length), (131, nv k)], [(8, .cells [.c (nodes t), .c (rowsS m), .c (costsD (tabOf t.length F))]), (10, .cells [.osl 38 0]), (38, .arr 78 0 ((tabW t.length W).map rowU))]⟩) (fun k => m.length - k) ⟨0, Enter.mk [] [] [] ?_, by omega⟩ ?_
      · simp only [cntTo, costsD, nums, rowsS, nodes, zv, bv, sv, nv, uv, VZ, BEq.rfl, seval, -Int.reduceNatCast', kAgg, scD, List.all_cons, List.all_nil]
        exact ⟨rfl, rfl⟩
      intro k hk
      have hc := cntTo_succ (F 0) x (W 0) k
      simp only [lt_nat, costsD, nums, rowsS, nodes, zv, bv, sv, nv, uv, VZ, BEq.rfl, seval, -Int.reduceNatCast', kAgg, scD, List.all_cons, List.all_nil]
      refine guardB.mk (fun h => ?_) (fun h => ?_)
      · have hk' : k < m.length := by simpa using h
        clear h
        have hk12 : k < 12 := by omega
        have hcell : ((tabOf t.length F).getD 0 []).getD k 0 = F 0 k := tabOf_cell hn0 hk12
        have hrl : (rowE ((tabOf t.length F).getD 0 [])).length = 12 := by rw [tabOf_row hn0]; simp [rowE]
        simp only [getD_rowE (tabOf t.length F) 0 (by rw [tabOf_len]; exact hn0), drop_rowE (show k < ((tabOf t.length F).getD 0 []).length by rw [tabOf_row hn0]; simpa using hk12), hcell, hrl, tabOf_len, int_beq, nums, rowsS, nodes, zv, bv, sv, nv, uv, VZ, BEq.rfl, seval, -Int.reduceNatCast', kAgg, scD, List.all_cons, List.all_nil]
        refine ⟨hn0, ⟨Int.natCast_nonneg k, hk12⟩, ?_⟩
        refine guardB.mk (fun h => ?_) (fun h => ?_) <;> simp only [h, nums, rowsS, nodes, zv, bv, sv, nv, uv, VZ, BEq.rfl, seval, -Int.reduceNatCast', kAgg, scD, List.all_cons, List.all_nil]
        · have h : F 0 k = x := by simpa using h
          rw [if_pos h] at hc
          simp only [dropW hn0 hk12, rowW_len hn0, tabW_len, nums, rowsS, nodes, zv, bv, sv, nv, uv, VZ, BEq.rfl, seval, -Int.reduceNatCast', kAgg, scD, List.all_cons, List.all_nil]
          refine ⟨hn0, ⟨Int.natCast_nonneg k, hk12⟩, hn0, ?_⟩
          refine CallX.mk (plus_ok _ _ (satN_le _) (satN_le _)) rfl ?_
          simp only [satN_add, ← hc, wrap_nat (k := k) (by omega), nums, rowsS, nodes, zv, bv, sv, nv, uv, VZ, BEq.rfl, seval, -Int.reduceNatCast', kAgg, scD, List.all_cons, List.all_nil]
          refine ⟨k + 1, Enter.mk [] [] [] ?_, by omega, by show m.length - (k + 1) < m.length - k; omega⟩
          simp only [nums, rowsS, nodes, zv, bv, sv, nv, uv, VZ, BEq.rfl, seval, -Int.reduceNatCast', kAgg, scD, List.all_cons, List.all_nil]
        · have h : F 0 k ≠ x := by simpa using h
          rw [if_neg h, Nat.add_zero] at hc
          simp only [wrap_nat (k := k) (by omega), nums, rowsS, nodes, zv, bv, sv, nv, uv, VZ, BEq.rfl, seval, -Int.reduceNatCast', kAgg, scD, List.all_cons, List.all_nil]
          refine ⟨k + 1, Enter.mk [] [] [] ?_, by omega, by show m.length - (k + 1) < m.length - k; omega⟩
          simp only [hc, nums, rowsS, nodes, zv, bv, sv, nv, uv, VZ, BEq.rfl, seval, -Int.reduceNatCast', kAgg, scD, List.all_cons, List.all_nil]
      · have hk' : k = m.length := by
          have : ¬ k < m.length := by simpa using h
          omega
        subst hk'
        rw [← hwn]
        obtain ⟨N, hN⟩ : ∃ N, waysN t m st = N := ⟨_, rfl⟩
        rw [hN] at herrW
        simp only [hN, int_beq, nums, rowsS, nodes, zv, bv, sv, nv, uv, VZ, BEq.rfl, seval, -Int.reduceNatCast', kAgg, scD, List.all_cons, List.all_nil]
        by_cases hlt : N < 9223372036854775808
        · have e1 : satN N = N := by rw [satN, if_pos hlt]
          rw [if_pos hlt] at herrW
          have e2 : decide ((N : Int) = 9223372036854775808) = false := decide_eq_false (by omega)
          simp only [e1, e2, herrW, waysV, hN, if_pos, wrap_in (n := (N : Int)) (by omega) (by omega), nums, rowsS, nodes, zv, bv, sv, nv, uv, VZ, BEq.rfl, seval, -Int.reduceNatCast', kAgg, scD, List.all_cons, List.all_nil]
        · have e1 : satN N = 9223372036854775808 := by rw [satN, if_neg hlt]
          rw [if_neg hlt] at herrW
          have e2 : decide (((9223372036854775808 : Nat) : Int) = 9223372036854775808) = true := rfl
          simp only [e1, e2, herrW, waysV, hN, nums, rowsS, nodes, zv, bv, sv, nv, uv, VZ, BEq.rfl, seval, -Int.reduceNatCast', kAgg, scD, List.all_cons, List.all_nil]
          try rfl
    have hv0 : 0 < v := by have : v ≠ 0 := by simpa using h
                           omega
    clear h
    obtain ⟨hup, hupe⟩ := g.par v hv0 hvn
    have hwf : wayF t m F (y + 1) = wayR m F (wayF t m F y) v (parN t v) m.length := by rw [wayF, ← hv]
    have hpx : (t.getD v Node.zero).parent = (parN t v : Int) := hupe
    obtain ⟨up, hupn⟩ : ∃ up, parN t v = up := ⟨_, rfl⟩
    rw [hupn] at hup hpx hwf
    obtain ⟨W, hW⟩ : ∃ W, wayF t m F y = W := ⟨_, rfl⟩
    rw [hW] at hwf
    simp only [hW]
    have hne : v ≠ up := by omega
    have hupl : up < t.length := by omega
    refine LoopVC.mk (Y := Nat) (fun j => j ≤ m.length) (fun j => ⟨[(3, .bp 3 0), (4, .bp 4 0), (8, .bp 8 0), (10, .bp 10 0), (13, nv v), (62, nv m.length), (63, nv j)], [(3, .cells [.c (nodes t)]), (4, .cells [.c (rowsS m)]), (8, .cells [.c (nodes t), .c (rowsS m), .c (costsD (tabOf t.length F))]), (10, .cells [.osl 38 0]), (38, .arr 78 0 ((tabW t.length (wayR m F W v up j)).map rowU))]⟩) (fun j => m.length - j) ⟨0, Enter.mk [] [] [] ?_, by omega⟩ ?_
    · simp only [wayR_zero, costsD, nums, rowsS, nodes, zv, bv, sv, nv, uv, VZ, BEq.rfl, seval, -Int.reduceNatCast', kAgg, scD, List.all_cons, List.all_nil]
      try rfl
    intro j hj
    simp only [lt_nat, costsD, nums, rowsS, nodes, zv, bv, sv, nv, uv, VZ, BEq.rfl, seval, -Int.reduceNatCast', kAgg, scD, List.all_cons, List.all_nil]
    refine guardB.mk (fun h => ?_) (fun h => ?_)
    · have hj' : j < m.length := by simpa using h
      clear h
      have hj12 : j < 12 := by omega
      simp only [nums, rowsS, nodes, zv, bv, sv, nv, uv, VZ, BEq.rfl, seval, -Int.reduceNatCast', kAgg, scD, List.all_cons, List.all_nil]
      refine CallX.mk (least_ok t m (tabOf t.length F) v j t.length g.mat hTab hvn hj') rfl ?_
      have hx1 : (bestTo (stepI m (tabOf t.length F) v j) m.length).1 = underF m F v j := by rw [hlst v j hvn]; rfl
      obtain ⟨x, hx⟩ : ∃ x, underF m F v j = x := ⟨_, rfl⟩
      rw [hx] at hx1
      have hrow : wayR m F W v up j v = W v := wayR_row hne
      have hat : wayR m F W v up j up j = W up j := wayR_at
      have hsucc := wayR_succ (m := m) (F := F) (W := W) (v := v) (up := up) (j := j)
      obtain ⟨G, hG⟩ : ∃ G, wayR m F W v up j = G := ⟨_, rfl⟩
      rw [hG] at hrow hat hsucc
      simp only [hx1, hG, nums, rowsS, nodes, zv, bv, sv, nv, uv, VZ, BEq.rfl, seval, -Int.reduceNatCast', kAgg, scD, List.all_cons, List.all_nil]
      refine LoopVC.mk (Y := Nat) (fun b => b ≤ m.length) (fun b => ⟨[(3, .bp 3 0), (4, .bp 4 0), (8, .bp 8 0), (10, .bp 10 0), (13, nv v), (14, nv j), (15, zv x), (17, uv (satN (swTo m F v j (W v) b))), (62, nv m.length), (63, nv j), (74, nv m.length), (75, nv b)], [(3, .cells [.c (nodes t)]), (4, .cells [.c (rowsS m)]), (8, .cells [.c (nodes t), .c (rowsS m), .c (costsD (tabOf t.length F))]), (10, .cells [.osl 38 0]), (38, .arr 78 0 ((tabW t.length G).map rowU))]⟩) (fun b => m.length - b) ⟨0, Enter.mk [] [] [] ?_, by omega⟩ ?_
      · simp only [swTo, costsD, nums, rowsS, nodes, zv, bv, sv, nv, uv, VZ, BEq.rfl, seval, -Int.reduceNatCast', kAgg, scD, List.all_cons, List.all_nil]
        exact ⟨rfl, rfl⟩
      intro b hb
      have hc := swTo_succ m F v j (W v) b
      simp only [lt_nat, costsD, nums, rowsS, nodes, zv, bv, sv, nv, uv, VZ, BEq.rfl, seval, -Int.reduceNatCast', kAgg, scD, List.all_cons, List.all_nil]
      refine guardB.mk (fun h => ?_) (fun h => ?_)
      · have hb' : b < m.length := by simpa using h
        clear h
        have hb12 : b < 12 := by omega
        have hgv : G v b = W v b := by rw [hrow]
        have hst := hstp v j b hvn hb'
        simp only [bne, int_beq, nums, rowsS, nodes, zv, bv, sv, nv, uv, VZ, BEq.rfl, seval, -Int.reduceNatCast', kAgg, scD, List.all_cons, List.all_nil]
        refine guardB.mk (fun h => ?_) (fun h => ?_) <;> simp only [h, nums, rowsS, nodes, zv, bv, sv, nv, uv, VZ, BEq.rfl, seval, -Int.reduceNatCast', kAgg, scD, List.all_cons, List.all_nil]
        · have h1 : x ≠ -1 := by simpa using h
          clear h
          refine CallX.mk (step_ok t m (tabOf t.length F) v j b t.length g.mat hTab hvn hj' hb') rfl ?_
          simp only [hst, int_beq, nums, rowsS, nodes, zv, bv, sv, nv, uv, VZ, BEq.rfl, seval, -Int.reduceNatCast', kAgg, scD, List.all_cons, List.all_nil]
          refine guardB.mk (fun h => ?_) (fun h => ?_) <;> simp only [h, nums, rowsS, nodes, zv, bv, sv, nv, uv, VZ, BEq.rfl, seval, -Int.reduceNatCast', kAgg, scD, List.all_cons, List.all_nil]
          · have h2 : stepF m F v j b = x := by simpa using h
            rw [if_pos (show isBest m F v j b from ⟨by rw [hx]; exact h1, by rw [hx]; exact h2⟩)] at hc
            simp only [dropW hvn hb12, rowW_len hvn, tabW_len, hgv, nums, rowsS, nodes, zv, bv, sv, nv, uv, VZ, BEq.rfl, seval, -Int.reduceNatCast', kAgg, scD, List.all_cons, List.all_nil]
            refine ⟨Int.natCast_nonneg v, hvn, ⟨Int.natCast_nonneg b, hb12⟩, hvn, ?_⟩
            refine CallX.mk (plus_ok _ _ (satN_le _) (satN_le _)) rfl ?_
            simp only [satN_add, ← hc, wrap_nat (k := b) (by omega), nums, rowsS, nodes, zv, bv, sv, nv, uv, VZ, BEq.rfl, seval, -Int.reduceNatCast', kAgg, scD, List.all_cons, List.all_nil]
            refine ⟨b + 1, Enter.mk [] [] [] ?_, by omega, by show m.length - (b + 1) < m.length - b; omega⟩
            simp only [nums, rowsS, nodes, zv, bv, sv, nv, uv, VZ, BEq.rfl, seval, -Int.reduceNatCast', kAgg, scD, List.all_cons, List.all_nil]
          · have h2 : stepF m F v j b ≠ x := by simpa using h
            rw [if_neg (by exact fun e => h2 (by rw [e.2, hx])), Nat.add_zero] at hc
            simp only [wrap_nat (k := b) (by omega), nums, rowsS, nodes, zv, bv, sv, nv, uv, VZ, BEq.rfl, seval, -Int.reduceNatCast', kAgg, scD, List.all_cons, List.all_nil]
            refine ⟨b + 1, Enter.mk [] [] [] ?_, by omega, by show m.length - (b + 1) < m.length - b; omega⟩
            simp only [hc, nums, rowsS, nodes, zv, bv, sv, nv, uv, VZ, BEq.rfl, seval, -Int.reduceNatCast', kAgg, scD, List.all_cons, List.all_nil]
        · have h1 : x = -1 := by simpa using h
          rw [if_neg (by exact fun e => e.1 (by rw [hx, h1])), Nat.add_zero] at hc
          simp only [wrap_nat (k := b) (by omega), nums, rowsS, nodes, zv, bv, sv, nv, uv, VZ, BEq.rfl, seval, -Int.reduceNatCast', kAgg, scD, List.all_cons, List.all_nil]
          refine ⟨b + 1, Enter.mk [] [] [] ?_, by omega, by show m.length - (b + 1) < m.length - b; omega⟩
          simp only [hc, nums, rowsS, nodes, zv, bv, sv, nv, uv, VZ, BEq.rfl, seval, -Int.reduceNatCast', kAgg, scD, List.all_cons, List.all_nil]
      · have hb' : b = m.length := by
          have : ¬ b < m.length := by simpa using h
          omega
        subst hb'
        clear h
        obtain ⟨S, hS⟩ : ∃ S, swTo m F v j (W v) m.length = S := ⟨_, rfl⟩
        rw [hS] at hsucc
        simp only [hS, getD_node t v hvn, node_def, hpx, dropW hupl hj12, rowW_len hupl, tabW_len, hat, nums, rowsS, nodes, zv, bv, sv, nv, uv, VZ, BEq.rfl, seval, -Int.reduceNatCast', kAgg, scD, List.all_cons, List.all_nil]
        refine ⟨⟨Int.natCast_nonneg v, hvn⟩, Int.natCast_nonneg up, hupl, ⟨Int.natCast_nonneg j, hj12⟩, hupl, ?_⟩
        have hA := satN_le (W up j)
        have hB := satN_le S
        have hsm := satN_mul (W up j) S
        refine CallX.mk (Mul64_ok _ _ (by omega) (by omega)) rfl ?_
        obtain ⟨p, hp⟩ : ∃ p, satN (W up j) * satN S = p := ⟨_, rfl⟩
        rw [hp] at hsm
        obtain ⟨l, hl'⟩ : ∃ l, p % 18446744073709551616 = l := ⟨_, rfl⟩
        have hmin : (bif decide ((9223372036854775808 : Int) < (l : Int)) then (9223372036854775808 : Int) else (l : Int)) = ((satN l : Nat) : Int) := by
          rw [satN]
          by_cases hl2 : l < 9223372036854775808
          · rw [if_pos hl2, decide_eq_false (by omega)]; rfl
          · rw [if_neg hl2]
            by_cases hl3 : (9223372036854775808 : Int) < (l : Int)
            · rw [decide_eq_true hl3]; rfl
            · rw [decide_eq_false hl3]; show (l : Int) = _; omega
        simp only [hp, hl', hmin, setW hupl hj12, rowW_len hupl, tabW_len, nums, rowsS, nodes, zv, bv, sv, nv, uv, VZ, BEq.rfl, seval, -Int.reduceNatCast', kAgg, scD, List.all_cons, List.all_nil]
        refine ⟨⟨hupl, by omega⟩, ?_⟩
        have hwj := wrap_nat (k := j) (by omega)
        refine guardB.mk (fun h => ?_) (fun h => ?_)
        · have hhi : (0 : Int) < ((p / 18446744073709551616 : Nat) : Int) := by simpa using h
          clear h
          have hbig : (9223372036854775808 : Int) = ((satN (W up j * S) : Nat) : Int) := by
            rw [← hsm, satN_ge (Nat.le_refl p) (by omega)]; rfl
          simp only [setWi hbig hupl hj12, updW_twice, ← hsucc, rowW_len hupl, tabW_len, hwj, nums, rowsS, nodes, zv, bv, sv, nv, uv, VZ, BEq.rfl, seval, -Int.reduceNatCast', kAgg, scD, List.all_cons, List.all_nil]
          refine ⟨⟨hupl, by omega⟩, j + 1, Enter.mk [] [] [] ?_, by omega, by show m.length - (j + 1) < m.length - j; omega⟩
          simp only [costsD, nums, rowsS, nodes, zv, bv, sv, nv, uv, VZ, BEq.rfl, seval, -Int.reduceNatCast', kAgg, scD, List.all_cons, List.all_nil]
        · have hhi : ¬ (0 : Int) < ((p / 18446744073709551616 : Nat) : Int) := by simpa using h
          clear h
          have hlp : l = p := by omega
          have htab := tabW_congr (n := t.length) (F := G) (v := up) (s := j) hsm
          rw [← hsucc] at htab
          simp only [hlp, htab, hwj, nums, rowsS, nodes, zv, bv, sv, nv, uv, VZ, BEq.rfl, seval, -Int.reduceNatCast', kAgg, scD, List.all_cons, List.all_nil]
          refine ⟨j + 1, Enter.mk [] [] [] ?_, by omega, by show m.length - (j + 1) < m.length - j; omega⟩
          simp only [costsD, nums, rowsS, nodes, zv, bv, sv, nv, uv, VZ, BEq.rfl, seval, -Int.reduceNatCast', kAgg, scD, List.all_cons, List.all_nil]
    · have hj' : j = m.length := by
        have : ¬ j < m.length := by simpa using h
        omega
      subst hj'
      simp only [nums, rowsS, nodes, zv, bv, sv, nv, uv, VZ, BEq.rfl, seval, -Int.reduceNatCast', kAgg, scD, List.all_cons, List.all_nil]
      refine ⟨y + 1, Enter.mk [] [] [] ?_, rfl, by omega⟩
      simp only [hwf, costsD, nums, rowsS, nodes, zv, bv, sv, nv, uv, VZ, BEq.rfl, seval, -Int.reduceNatCast', kAgg, scD, List.all_cons, List.all_nil]
  · rintro y ⟨rfl, hk⟩
    rw [backL_len] at hk
    omega

end Go.Cp
end

section
set_option linter.unusedVariables false
set_option linter.unusedSimpArgs false
set_option maxHeartbeats 4000000
set_option maxRecDepth 10000
namespace Go.Cp
open Go Go.Proofs Go.Vx

theorem take_succ_eq {α : Type} {xs ys : List α} {k : Nat} (z : α) (hx : k < xs.length) (hy : k < ys.length) (h : xs.take k = ys.take k) (he : xs.getD k z = ys.getD k z) : xs.take (k + 1) = ys.take (k + 1) := by
  rw [List.take_add_one, List.take_add_one, h]
  simp only [List.getD, List.getElem?_eq_getElem hx, List.getElem?_eq_getElem hy, Option.getD_some] at he
  rw [List.getElem?_eq_getElem hx, List.getElem?_eq_getElem hy, he]
theorem node_beq (x y : Node) : (x.parent == y.parent && (x.name.toList == y.name.toList)) = decide (x = y) := by
  rw [str_beq, int_beq]
  cases x; cases y
  simp only [Node.mk.injEq, Bool.decide_and]

theorem equal_ok (xs ys : List Int) : Ok Try.prog E 27 [.c (nums xs), .c (nums ys)] (bv (decide (xs = ys))) := by
  refine ok_of_vc (L := []) (ts := [4]) envOK mixed Try.func27 rfl (by kernel_rfl) rfl (by kernel_rfl) rfl fun hl => ?_
  have hlen := len_of (hl _ (List.mem_cons_self ..))
  rw [List.length_map] at hlen
  have e2 : ((xs.length : Int) != (ys.length : Int)) = !decide (xs.length = ys.length) := by
    rw [bne, int_beq]; congr 2; exact propext ⟨fun h => by omega, fun h => by omega⟩
  simp only [Try.f27, e2, nums, rowsS, nodes, zv, bv, sv, nv, VZ, BEq.rfl, seval, -Int.reduceNatCast', kAgg, scD, List.all_cons, List.all_nil]
  refine guardB.mk (fun h => ?_) (fun h => ?_) <;> simp only [h, nums, rowsS, nodes, zv, bv, sv, nv, VZ, BEq.rfl, seval, -Int.reduceNatCast', kAgg, scD, List.all_cons, List.all_nil]
  · have h : xs.length ≠ ys.length := by simpa using h
    have hne : xs ≠ ys := fun e => h (by rw [e])
    simp only [decide_eq_false hne, nums, rowsS, nodes, zv, bv, sv, nv, VZ, BEq.rfl, seval, -Int.reduceNatCast', kAgg, scD, List.all_cons, List.all_nil]
  have hxy : xs.length = ys.length := by simpa using h
  clear h
  refine LoopVC.mk (Y := Nat) (fun k => k ≤ xs.length ∧ xs.take k = ys.take k) (fun k => ⟨[(0, .c (nums xs)), (1, .c (nums ys)), (12, nv xs.length), (13, nv k)], []⟩) (fun k => xs.length - k) ⟨0, Enter.id ?_, by omega, rfl⟩ ?_
  · simp only [nums, rowsS, nodes, zv, bv, sv, nv, VZ, BEq.rfl, seval, -Int.reduceNatCast', kAgg, scD, List.all_cons, List.all_nil]
    try rfl
  rintro k ⟨hk, hpre⟩
  simp only [lt_nat, nums, rowsS, nodes, zv, bv, sv, nv, VZ, BEq.rfl, seval, -Int.reduceNatCast', kAgg, scD, List.all_cons, List.all_nil]
  refine guardB.mk (fun h => ?_) (fun h => ?_)
  · have hk' : k < xs.length := by simpa using h
    clear h
    have hn := take_succ_eq 0 hk' (show k < ys.length by omega) hpre
    have hb : xs.getD k 0 ≠ ys.getD k 0 → xs ≠ ys := fun h e => h (by rw [e])
    obtain ⟨x, hx⟩ : ∃ x, xs.getD k 0 = x := ⟨_, rfl⟩
    obtain ⟨y, hy⟩ : ∃ y, ys.getD k 0 = y := ⟨_, rfl⟩
    rw [hx, hy] at hn hb
    simp only [getD_num xs k hk', getD_num ys k (by omega), hx, hy, num_def, bne, int_beq, nums, rowsS, nodes, zv, bv, sv, nv, VZ, BEq.rfl, seval, -Int.reduceNatCast', kAgg, scD, List.all_cons, List.all_nil]
    refine ⟨⟨Int.natCast_nonneg k, by omega⟩, ⟨Int.natCast_nonneg k, by omega⟩, ?_⟩
    refine guardB.mk (fun h => ?_) (fun h => ?_) <;> simp only [h, wrap_nat (k := k) (by omega), nums, rowsS, nodes, zv, bv, sv, nv, VZ, BEq.rfl, seval, -Int.reduceNatCast', kAgg, scD, List.all_cons, List.all_nil]
    · have h : x ≠ y := by simpa using h
      simp only [decide_eq_false (hb h), nums, rowsS, nodes, zv, bv, sv, nv, VZ, BEq.rfl, seval, -Int.reduceNatCast', kAgg, scD, List.all_cons, List.all_nil]
    · have h : x = y := by simpa using h
      refine ⟨k + 1, Enter.id ?_, ⟨by omega, hn h⟩, by show xs.length - (k + 1) < xs.length - k; omega⟩
      simp only [nums, rowsS, nodes, zv, bv, sv, nv, VZ, BEq.rfl, seval, -Int.reduceNatCast', kAgg, scD, List.all_cons, List.all_nil]
  · have hk' : k = xs.length := by
      have : ¬ k < xs.length := by simpa using h
      omega
    subst hk'
    have he : xs = ys := by
      rw [List.take_length, hxy, List.take_length] at hpre; exact hpre
    simp only [decide_eq_true he, nums, rowsS, nodes, zv, bv, sv, nv, VZ, BEq.rfl, seval, -Int.reduceNatCast', kAgg, scD, List.all_cons, List.all_nil]

theorem equal64_ok (xs ys : List Int) : Ok Try.prog E 65 [.c (nums xs), .c (nums ys)] (bv (decide (xs = ys))) := by
  refine ok_of_vc (L := []) (ts := [4]) envOK mixed Try.func65 rfl (by kernel_rfl) rfl (by kernel_rfl) rfl fun hl => ?_
  have hlen := len_of (hl _ (List.mem_cons_self ..))
  rw [List.length_map] at hlen
  have e2 : ((xs.length : Int) != (ys.length : Int)) = !decide (xs.length = ys.length) := by
    rw [bne, int_beq]; congr 2; exact propext ⟨fun h => by omega, fun h => by omega⟩
  simp only [Try.f65, e2, nums, rowsS, nodes, zv, bv, sv, nv, VZ, BEq.rfl, seval, -Int.reduceNatCast', kAgg, scD, List.all_cons, List.all_nil]
  refine guardB.mk (fun h => ?_) (fun h => ?_) <;> simp only [h, nums, rowsS, nodes, zv, bv, sv, nv, VZ, BEq.rfl, seval, -Int.reduceNatCast', kAgg, scD, List.all_cons, List.all_nil]
  · have h : xs.length ≠ ys.length := by simpa using h
    have hne : xs ≠ ys := fun e => h (by rw [e])
    simp only [decide_eq_false hne, nums, rowsS, nodes, zv, bv, sv, nv, VZ, BEq.rfl, seval, -Int.reduceNatCast', kAgg, scD, List.all_cons, List.all_nil]
  have hxy : xs.length = ys.length := by simpa using h
  clear h
  refine LoopVC.mk (Y := Nat) (fun k => k ≤ xs.length ∧ xs.take k = ys.take k) (fun k => ⟨[(0, .c (nums xs)), (1, .c (nums ys)), (12, nv xs.length), (13, nv k)], []⟩) (fun k => xs.length - k) ⟨0, Enter.id ?_, by omega, rfl⟩ ?_
  · simp only [nums, rowsS, nodes, zv, bv, sv, nv, VZ, BEq.rfl, seval, -Int.reduceNatCast', kAgg, scD, List.all_cons, List.all_nil]
    try rfl
  rintro k ⟨hk, hpre⟩
  simp only [lt_nat, nums, rowsS, nodes, zv, bv, sv, nv, VZ, BEq.rfl, seval, -Int.reduceNatCast', kAgg, scD, List.all_cons, List.all_nil]
  refine guardB.mk (fun h => ?_) (fun h => ?_)
  · have hk' : k < xs.length := by simpa using h
    clear h
    have hn := take_succ_eq 0 hk' (show k < ys.length by omega) hpre
    have hb : xs.getD k 0 ≠ ys.getD k 0 → xs ≠ ys := fun h e => h (by rw [e])
    obtain ⟨x, hx⟩ : ∃ x, xs.getD k 0 = x := ⟨_, rfl⟩
    obtain ⟨y, hy⟩ : ∃ y, ys.getD k 0 = y := ⟨_, rfl⟩
    rw [hx, hy] at hn hb
    simp only [getD_num xs k hk', getD_num ys k (by omega), hx, hy, num_def, bne, int_beq, nums, rowsS, nodes, zv, bv, sv, nv, VZ, BEq.rfl, seval, -Int.reduceNatCast', kAgg, scD, List.all_cons, List.all_nil]
    refine ⟨⟨Int.natCast_nonneg k, by omega⟩, ⟨Int.natCast_nonneg k, by omega⟩, ?_⟩
    refine guardB.mk (fun h => ?_) (fun h => ?_) <;> simp only [h, wrap_nat (k := k) (by omega), nums, rowsS, nodes, zv, bv, sv, nv, VZ, BEq.rfl, seval, -Int.reduceNatCast', kAgg, scD, List.all_cons, List.all_nil]
    · have h : x ≠ y := by simpa using h
      simp only [decide_eq_false (hb h), nums, rowsS, nodes, zv, bv, sv, nv, VZ, BEq.rfl, seval, -Int.reduceNatCast', kAgg, scD, List.all_cons, List.all_nil]
    · have h : x = y := by simpa using h
      refine ⟨k + 1, Enter.id ?_, ⟨by omega, hn h⟩, by show xs.length - (k + 1) < xs.length - k; omega⟩
      simp only [nums, rowsS, nodes, zv, bv, sv, nv, VZ, BEq.rfl, seval, -Int.reduceNatCast', kAgg, scD, List.all_cons, List.all_nil]
  · have hk' : k = xs.length := by
      have : ¬ k < xs.length := by simpa using h
      omega
    subst hk'
    have he : xs = ys := by
      rw [List.take_length, hxy, List.take_length] at hpre; exact hpre
    simp only [decide_eq_true he, nums, rowsS, nodes, zv, bv, sv, nv, VZ, BEq.rfl, seval, -Int.reduceNatCast', kAgg, scD, List.all_cons, List.all_nil]

theorem equalN_ok (xs ys : List Node) : Ok Try.prog E 62 [.c (nodes xs), .c (nodes ys)] (bv (decide (xs = ys))) := by
  refine ok_of_vc (L := []) (ts := [4]) envOK mixed Try.func62 rfl (by kernel_rfl) rfl (by kernel_rfl) rfl fun hl => ?_
  have hlen := len_of (hl _ (List.mem_cons_self ..))
  rw [List.length_map] at hlen
  have e2 : ((xs.length : Int) != (ys.length : Int)) = !decide (xs.length = ys.length) := by
    rw [bne, int_beq]; congr 2; exact propext ⟨fun h => by omega, fun h => by omega⟩
  simp only [Try.f62, e2, nums, rowsS, nodes, zv, bv, sv, nv, VZ, BEq.rfl, seval, -Int.reduceNatCast', kAgg, scD, List.all_cons, List.all_nil]
  refine guardB.mk (fun h => ?_) (fun h => ?_) <;> simp only [h, nums, rowsS, nodes, zv, bv, sv, nv, VZ, BEq.rfl, seval, -Int.reduceNatCast', kAgg, scD, List.all_cons, List.all_nil]
  · have h : xs.length ≠ ys.length := by simpa using h
    have hne : xs ≠ ys := fun e => h (by rw [e])
    simp only [decide_eq_false hne, nums, rowsS, nodes, zv, bv, sv, nv, VZ, BEq.rfl, seval, -Int.reduceNatCast', kAgg, scD, List.all_cons, List.all_nil]
  have hxy : xs.length = ys.length := by simpa using h
  clear h
  refine LoopVC.mk (Y := Nat) (fun k => k ≤ xs.length ∧ xs.take k = ys.take k) (fun k => ⟨[(0, .c (nodes xs)), (1, .c (nodes ys)), (12, nv xs.length), (13, nv k)], []⟩) (fun k => xs.length - k) ⟨0, Enter.id ?_, by omega, rfl⟩ ?_
  · simp only [nums, rowsS, nodes, zv, bv, sv, nv, VZ, BEq.rfl, seval, -Int.reduceNatCast', kAgg, scD, List.all_cons, List.all_nil]
    try rfl
  rintro k ⟨hk, hpre⟩
  simp only [lt_nat, nums, rowsS, nodes, zv, bv, sv, nv, VZ, BEq.rfl, seval, -Int.reduceNatCast', kAgg, scD, List.all_cons, List.all_nil]
  refine guardB.mk (fun h => ?_) (fun h => ?_)
  · have hk' : k < xs.length := by simpa using h
    clear h
    have hn := take_succ_eq Node.zero hk' (show k < ys.length by omega) hpre
    have hb : xs.getD k Node.zero ≠ ys.getD k Node.zero → xs ≠ ys := fun h e => h (by rw [e])
    obtain ⟨x, hx⟩ : ∃ x, xs.getD k Node.zero = x := ⟨_, rfl⟩
    obtain ⟨y, hy⟩ : ∃ y, ys.getD k Node.zero = y := ⟨_, rfl⟩
    rw [hx, hy] at hn hb
    simp only [getD_node xs k hk', getD_node ys k (by omega), hx, hy, node_def, node_beq, nums, rowsS, nodes, zv, bv, sv, nv, VZ, BEq.rfl, seval, -Int.reduceNatCast', kAgg, scD, List.all_cons, List.all_nil]
    refine ⟨⟨Int.natCast_nonneg k, by omega⟩, ⟨Int.natCast_nonneg k, by omega⟩, ?_⟩
    refine guardB.mk (fun h => ?_) (fun h => ?_) <;> simp only [h, wrap_nat (k := k) (by omega), nums, rowsS, nodes, zv, bv, sv, nv, VZ, BEq.rfl, seval, -Int.reduceNatCast', kAgg, scD, List.all_cons, List.all_nil]
    · have h : x ≠ y := by simpa using h
      simp only [decide_eq_false (hb h), nums, rowsS, nodes, zv, bv, sv, nv, VZ, BEq.rfl, seval, -Int.reduceNatCast', kAgg, scD, List.all_cons, List.all_nil]
    · have h : x = y := by simpa using h
      refine ⟨k + 1, Enter.id ?_, ⟨by omega, hn h⟩, by show xs.length - (k + 1) < xs.length - k; omega⟩
      simp only [nums, rowsS, nodes, zv, bv, sv, nv, VZ, BEq.rfl, seval, -Int.reduceNatCast', kAgg, scD, List.all_cons, List.all_nil]
  · have hk' : k = xs.length := by
      have : ¬ k < xs.length := by simpa using h
      omega
    subst hk'
    have he : xs = ys := by
      rw [List.take_length, hxy, List.take_length] at hpre; exact hpre
    simp only [decide_eq_true he, nums, rowsS, nodes, zv, bv, sv, nv, VZ, BEq.rfl, seval, -Int.reduceNatCast', kAgg, scD, List.all_cons, List.all_nil]

theorem eqrow_ok (xs ys : List Int) : Ok Try.prog E 64 [.c (nums xs), .c (nums ys)] (bv (decide (xs = ys))) := by
  refine ok_of_vc (L := []) (ts := [4]) envOK mixed Try.func64 rfl (by kernel_rfl) rfl (by kernel_rfl) rfl fun hl => ?_
  simp only [Try.f64, nums, rowsS, nodes, zv, bv, sv, nv, VZ, BEq.rfl, seval, -Int.reduceNatCast', kAgg, scD, List.all_cons, List.all_nil]
  refine CallX.mk (equal64_ok xs ys) rfl ?_
  simp only [nums, rowsS, nodes, zv, bv, sv, nv, VZ, BEq.rfl, seval, -Int.reduceNatCast', kAgg, scD, List.all_cons, List.all_nil]

theorem equalF_ok (xs ys : List (List Int)) : OkM Try.prog E 63 [.c (rowsS xs), .c (rowsS ys), .fn 64 []] [] (bv (decide (xs = ys))) [] := by
  refine okM_of_vc (L := []) (ts := [6]) envOK mixed Try.func63 rfl (by kernel_rfl) rfl (by decide) (by kernel_rfl) rfl fun hl hlb => ?_
  have hlen := len_of (hl _ (List.mem_cons_self ..))
  rw [List.length_map] at hlen
  have e2 : ((xs.length : Int) != (ys.length : Int)) = !decide (xs.length = ys.length) := by
    rw [bne, int_beq]; congr 2; exact propext ⟨fun h => by omega, fun h => by omega⟩
  simp only [Try.f63, e2, nums, rowsS, nodes, zv, bv, sv, nv, VZ, BEq.rfl, seval, -Int.reduceNatCast', kAgg, scD, List.all_cons, List.all_nil]
  refine guardB.mk (fun h => ?_) (fun h => ?_) <;> simp only [h, nums, rowsS, nodes, zv, bv, sv, nv, VZ, BEq.rfl, seval, -Int.reduceNatCast', kAgg, scD, List.all_cons, List.all_nil]
  · have h : xs.length ≠ ys.length := by simpa using h
    have hne : xs ≠ ys := fun e => h (by rw [e])
    simp only [decide_eq_false hne, nums, rowsS, nodes, zv, bv, sv, nv, VZ, BEq.rfl, seval, -Int.reduceNatCast', kAgg, scD, List.all_cons, List.all_nil]
    refine Enter.mk [] [] [] ?_
    simp only [nums, rowsS, nodes, zv, bv, sv, nv, VZ, BEq.rfl, seval, -Int.reduceNatCast', kAgg, scD, List.all_cons, List.all_nil]
  have hxy : xs.length = ys.length := by simpa using h
  clear h
  refine LoopVC.mk (Y := Nat) (fun k => k ≤ xs.length ∧ xs.take k = ys.take k) (fun k => ⟨[(1, .c (rowsS ys)), (2, .fn 64 []), (15, .c (rowsS xs)), (16, nv xs.length), (17, nv k)], []⟩) (fun k => xs.length - k) ⟨0, Enter.id ?_, by omega, rfl⟩ ?_
  · simp only [nums, rowsS, nodes, zv, bv, sv, nv, VZ, BEq.rfl, seval, -Int.reduceNatCast', kAgg, scD, List.all_cons, List.all_nil]
    try rfl
  rintro k ⟨hk, hpre⟩
  simp only [lt_nat, nums, rowsS, nodes, zv, bv, sv, nv, VZ, BEq.rfl, seval, -Int.reduceNatCast', kAgg, scD, List.all_cons, List.all_nil]
  refine guardB.mk (fun h => ?_) (fun h => ?_)
  · have hk' : k < xs.length := by simpa using h
    clear h
    have hn := take_succ_eq [] hk' (show k < ys.length by omega) hpre
    have hb : xs.getD k [] ≠ ys.getD k [] → xs ≠ ys := fun h e => h (by rw [e])
    obtain ⟨x, hx⟩ : ∃ x, xs.getD k [] = x := ⟨_, rfl⟩
    obtain ⟨y, hy⟩ : ∃ y, ys.getD k [] = y := ⟨_, rfl⟩
    rw [hx, hy] at hn hb
    simp only [getD_rowS xs k hk', getD_rowS ys k (by omega), hx, hy, rowS_def, nums, rowsS, nodes, zv, bv, sv, nv, VZ, BEq.rfl, seval, -Int.reduceNatCast', kAgg, scD, List.all_cons, List.all_nil]
    refine ⟨⟨Int.natCast_nonneg k, by omega⟩, ⟨Int.natCast_nonneg k, by omega⟩, ?_⟩
    refine CallX.mk (eqrow_ok x y) rfl ?_
    simp only [nums, rowsS, nodes, zv, bv, sv, nv, VZ, BEq.rfl, seval, -Int.reduceNatCast', kAgg, scD, List.all_cons, List.all_nil]
    refine guardB.mk (fun h => ?_) (fun h => ?_) <;> simp only [h, wrap_nat (k := k) (by omega), nums, rowsS, nodes, zv, bv, sv, nv, VZ, BEq.rfl, seval, -Int.reduceNatCast', kAgg, scD, List.all_cons, List.all_nil]
    · have h : x ≠ y := by simpa using h
      simp only [decide_eq_false (hb h), nums, rowsS, nodes, zv, bv, sv, nv, VZ, BEq.rfl, seval, -Int.reduceNatCast', kAgg, scD, List.all_cons, List.all_nil]
      refine Enter.mk [] [] [] ?_
      simp only [nums, rowsS, nodes, zv, bv, sv, nv, VZ, BEq.rfl, seval, -Int.reduceNatCast', kAgg, scD, List.all_cons, List.all_nil]
    · have h : x = y := by simpa using h
      refine ⟨k + 1, Enter.id ?_, ⟨by omega, hn h⟩, by show xs.length - (k + 1) < xs.length - k; omega⟩
      simp only [nums, rowsS, nodes, zv, bv, sv, nv, VZ, BEq.rfl, seval, -Int.reduceNatCast', kAgg, scD, List.all_cons, List.all_nil]
  · have hk' : k = xs.length := by
      have : ¬ k < xs.length := by simpa using h
      omega
    subst hk'
    have he : xs = ys := by
      rw [List.take_length, hxy, List.take_length] at hpre; exact hpre
    simp only [decide_eq_true he, nums, rowsS, nodes, zv, bv, sv, nv, VZ, BEq.rfl, seval, -Int.reduceNatCast', kAgg, scD, List.all_cons, List.all_nil]
    refine Enter.mk [] [] [] ?_
    simp only [nums, rowsS, nodes, zv, bv, sv, nv, VZ, BEq.rfl, seval, -Int.reduceNatCast', kAgg, scD, List.all_cons, List.all_nil]

theorem allLen_node (xs : List Node) : AllLen 2 (xs.map Node.enc) := by
  intro y hy
  obtain ⟨n, _, rfl⟩ := List.mem_map.1 hy
  try rfl
theorem allLen_rowS (xs : List (List Int)) : AllLen 1 (xs.map rowS) := by
  intro y hy
  obtain ⟨n, _, rfl⟩ := List.mem_map.1 hy
  try rfl

theorem clone_ok (xs : List Int) (hn : xs.length ≤ 1000000) : Ok Try.prog E 41 [.c (nums xs)] (.fr 3 (xs.map num)) := by
  by_cases hx : xs = []
  · subst hx
    refine Ok.empty fun A c => ?_
    refine ok_of_vc (L := []) (ts := [2]) envOK mixed Try.func41 rfl (by kernel_rfl) rfl (by kernel_rfl) rfl fun hl => ?_
    cases A with
    | none =>
      simp only [Try.f41, nums, rowsS, nodes, zv, bv, sv, nv, VZ, BEq.rfl, seval, -Int.reduceNatCast', kAgg, scD, List.all_cons, List.all_nil]
      try rfl
    | some ad =>
      simp only [Try.f41, nums, rowsS, nodes, zv, bv, sv, nv, VZ, BEq.rfl, seval, -Int.reduceNatCast', kAgg, scD, List.all_cons, List.all_nil]
      exact fun y hy => by simp at hy
  · refine ok_of_vc (L := []) (ts := [2]) envOK mixed Try.func41 rfl (by kernel_rfl) rfl (by kernel_rfl) rfl fun hl => ?_
    have hne : xs.map num ≠ [] := by simpa using hx
    simp only [Try.f41, nums, rowsS, nodes, zv, bv, sv, nv, VZ, BEq.rfl, seval, -Int.reduceNatCast', kAgg, scD, List.all_cons, List.all_nil]
    exact ⟨hne, by omega, allLen_num xs⟩

theorem clone64_ok (xs : List Int) (hn : xs.length ≤ 1000000) : Ok Try.prog E 57 [.c (nums xs)] (.fr 2 (xs.map num)) := by
  by_cases hx : xs = []
  · subst hx
    refine Ok.empty fun A c => ?_
    refine ok_of_vc (L := []) (ts := [2]) envOK mixed Try.func57 rfl (by kernel_rfl) rfl (by kernel_rfl) rfl fun hl => ?_
    cases A with
    | none =>
      simp only [Try.f57, nums, rowsS, nodes, zv, bv, sv, nv, VZ, BEq.rfl, seval, -Int.reduceNatCast', kAgg, scD, List.all_cons, List.all_nil]
      try rfl
    | some ad =>
      simp only [Try.f57, nums, rowsS, nodes, zv, bv, sv, nv, VZ, BEq.rfl, seval, -Int.reduceNatCast', kAgg, scD, List.all_cons, List.all_nil]
      exact fun y hy => by simp at hy
  · refine ok_of_vc (L := []) (ts := [2]) envOK mixed Try.func57 rfl (by kernel_rfl) rfl (by kernel_rfl) rfl fun hl => ?_
    have hne : xs.map num ≠ [] := by simpa using hx
    simp only [Try.f57, nums, rowsS, nodes, zv, bv, sv, nv, VZ, BEq.rfl, seval, -Int.reduceNatCast', kAgg, scD, List.all_cons, List.all_nil]
    exact ⟨hne, by omega, allLen_num xs⟩

theorem cloneN_ok (xs : List Node) (hn : xs.length ≤ 1000000) : Ok Try.prog E 56 [.c (nodes xs)] (.fr 39 (xs.map Node.enc)) := by
  by_cases hx : xs = []
  · subst hx
    refine Ok.empty fun A c => ?_
    refine ok_of_vc (L := []) (ts := [2]) envOK mixed Try.func56 rfl (by kernel_rfl) rfl (by kernel_rfl) rfl fun hl => ?_
    cases A with
    | none =>
      simp only [Try.f56, nums, rowsS, nodes, zv, bv, sv, nv, VZ, BEq.rfl, seval, -Int.reduceNatCast', kAgg, scD, List.all_cons, List.all_nil]
      try rfl
    | some ad =>
      simp only [Try.f56, nums, rowsS, nodes, zv, bv, sv, nv, VZ, BEq.rfl, seval, -Int.reduceNatCast', kAgg, scD, List.all_cons, List.all_nil]
      exact fun y hy => by simp at hy
  · refine ok_of_vc (L := []) (ts := [2]) envOK mixed Try.func56 rfl (by kernel_rfl) rfl (by kernel_rfl) rfl fun hl => ?_
    have hne : xs.map Node.enc ≠ [] := by simpa using hx
    simp only [Try.f56, nums, rowsS, nodes, zv, bv, sv, nv, VZ, BEq.rfl, seval, -Int.reduceNatCast', kAgg, scD, List.all_cons, List.all_nil]
    exact ⟨hne, by omega, allLen_node xs⟩

end Go.Cp
end

section
set_option linter.unusedVariables false
set_option linter.unusedSimpArgs false
set_option maxHeartbeats 4000000
set_option maxRecDepth 10000
namespace Go.Cp
open Go Go.Proofs Go.Vx

def caseA (t : List Node) (m : List (List Int)) (st all : List Int) (r : Int) : AV := .ag [nodes t, rowsS m, nums st, nums all, .sc (.int .i64 r)]
def namesTo (t : List Node) : Nat → Int
  | 0 => 0
  | k + 1 => IntKind.i64.wrap (namesTo t k + ((t.getD k Node.zero).name.size : Int))
def fewB (t : List Node) (m : List (List Int)) (st all : List Int) : Bool :=
  m.all (fun r => decide (r.length ≤ 20)) && (decide (t.length ≤ 100) && (decide (namesTo t t.length ≤ 4000) && (decide (m.length ≤ 20) && (decide (st.length ≤ 200) && decide (all.length ≤ 200)))))
structure Few (t : List Node) (m : List (List Int)) (st all : List Int) : Prop where
  tl : t.length ≤ 100
  ml : m.length ≤ 20
  sl : st.length ≤ 200
  al : all.length ≤ 200
  rows : ∀ k, k < m.length → (m.getD k []).length ≤ 20
theorem few_of {t : List Node} {m : List (List Int)} {st all : List Int} (h : fewB t m st all = true) : Few t m st all := by
  simp only [fewB, Bool.and_eq_true, decide_eq_true_eq, List.all_eq_true] at h
  obtain ⟨h1, h2, _, h4, h5, h6⟩ := h
  refine ⟨h2, h4, h5, h6, fun k hk => ?_⟩
  rw [List.getD, List.getElem?_eq_getElem hk]
  exact h1 _ (List.getElem_mem hk)

theorem few_ok (t : List Node) (m : List (List Int)) (st all : List Int) (r : Int) (ht : t.length ≤ 9223372036854775807) (hm : m.length ≤ 9223372036854775807) :
    Ok Try.prog E 28 [caseA t m st all r] (bv (fewB t m st all)) := by
  refine ok_of_vc (L := []) (ts := [2]) envOK mixed Try.func28 rfl (by kernel_rfl) rfl (by kernel_rfl) rfl fun hl => ?_
  simp only [Try.f28, nums, rowsS, nodes, zv, bv, sv, nv, caseA, VZ, BEq.rfl, seval, -Int.reduceNatCast', kAgg, scD, List.all_cons, List.all_nil]
  refine LoopVC.mk (Y := Nat) (fun k => k ≤ t.length) (fun k => ⟨[(1, .bp 1 0), (3, zv (namesTo t k)), (9, .c (nodes t)), (10, nv t.length), (11, nv k)], [(1, .cells [.c (nodes t), .c (rowsS m), .c (nums st), .c (nums all), zv r])]⟩) (fun k => t.length - k) ⟨0, Enter.mk [] [] [] ?_, by omega⟩ ?_
  · simp only [namesTo, nums, rowsS, nodes, zv, bv, sv, nv, caseA, VZ, BEq.rfl, seval, -Int.reduceNatCast', kAgg, scD, List.all_cons, List.all_nil]
    try rfl
  intro k hk
  simp only [lt_nat, nums, rowsS, nodes, zv, bv, sv, nv, caseA, VZ, BEq.rfl, seval, -Int.reduceNatCast', kAgg, scD, List.all_cons, List.all_nil]
  refine guardB.mk (fun h => ?_) (fun h => ?_)
  · have hk' : k < t.length := by simpa using h
    clear h
    have hn : namesTo t (k + 1) = IntKind.i64.wrap (namesTo t k + ((t.getD k Node.zero).name.size : Int)) := rfl
    simp only [getD_node t k hk', node_def, ← hn, wrap_nat (k := k) (by omega), nums, rowsS, nodes, zv, bv, sv, nv, caseA, VZ, BEq.rfl, seval, -Int.reduceNatCast', kAgg, scD, List.all_cons, List.all_nil]
    refine ⟨⟨Int.natCast_nonneg k, hk'⟩, k + 1, Enter.mk [] [] [] ?_, by omega, by show t.length - (k + 1) < t.length - k; omega⟩
    simp only [nums, rowsS, nodes, zv, bv, sv, nv, caseA, VZ, BEq.rfl, seval, -Int.reduceNatCast', kAgg, scD, List.all_cons, List.all_nil]
  have hk' : k = t.length := by
    have : ¬ k < t.length := by simpa using h
    omega
  subst hk'
  clear h
  simp only [nums, rowsS, nodes, zv, bv, sv, nv, caseA, VZ, BEq.rfl, seval, -Int.reduceNatCast', kAgg, scD, List.all_cons, List.all_nil]
  obtain ⟨N, hN⟩ : ∃ N, namesTo t t.length = N := ⟨_, rfl⟩
  simp only [hN]
  refine LoopVC.mk (Y := Nat) (fun k => k ≤ m.length ∧ (m.take k).all (fun r => decide (r.length ≤ 20)) = true) (fun k => ⟨[(1, .bp 1 0), (3, zv N), (22, .c (rowsS m)), (23, nv m.length), (24, nv k)], [(1, .cells [.c (nodes t), .c (rowsS m), .c (nums st), .c (nums all), zv r])]⟩) (fun k => m.length - k) ⟨0, Enter.mk [] [] [] ?_, by omega, rfl⟩ ?_
  · simp only [nums, rowsS, nodes, zv, bv, sv, nv, caseA, VZ, BEq.rfl, seval, -Int.reduceNatCast', kAgg, scD, List.all_cons, List.all_nil]
    try rfl
  rintro k ⟨hk, hpre⟩
  simp only [lt_nat, nums, rowsS, nodes, zv, bv, sv, nv, caseA, VZ, BEq.rfl, seval, -Int.reduceNatCast', kAgg, scD, List.all_cons, List.all_nil]
  refine guardB.mk (fun h => ?_) (fun h => ?_)
  · have hk' : k < m.length := by simpa using h
    clear h
    have hxb := all_false_at (p := fun r : List Int => decide (r.length ≤ 20)) [] hk'
    have hxg := all_take_succ [] hk' (fun r : List Int => decide (r.length ≤ 20))
    obtain ⟨x, hx⟩ : ∃ x, m.getD k [] = x := ⟨_, rfl⟩
    rw [hx] at hxb hxg
    have e1 : decide ((20 : Int) < (x.length : Int)) = decide (20 < x.length) := by congr 1; exact propext ⟨fun h => by omega, fun h => by omega⟩
    simp only [getD_rowS m k hk', hx, rowS_def, e1, nums, rowsS, nodes, zv, bv, sv, nv, caseA, VZ, BEq.rfl, seval, -Int.reduceNatCast', kAgg, scD, List.all_cons, List.all_nil]
    refine ⟨⟨Int.natCast_nonneg k, hk'⟩, ?_⟩
    refine guardB.mk (fun h => ?_) (fun h => ?_) <;> simp only [h, wrap_nat (k := k) (by omega), nums, rowsS, nodes, zv, bv, sv, nv, caseA, VZ, BEq.rfl, seval, -Int.reduceNatCast', kAgg, scD, List.all_cons, List.all_nil]
    · have h : 20 < x.length := by simpa using h
      simp only [fewB, hxb (decide_eq_false (by omega)), nums, rowsS, nodes, zv, bv, sv, nv, caseA, VZ, BEq.rfl, seval, -Int.reduceNatCast', kAgg, scD, List.all_cons, List.all_nil]
    · have h : ¬ 20 < x.length := by simpa using h
      rw [hpre, decide_eq_true (show x.length ≤ 20 by omega)] at hxg
      refine ⟨k + 1, Enter.mk [] [] [] ?_, ⟨by omega, hxg⟩, by show m.length - (k + 1) < m.length - k; omega⟩
      simp only [nums, rowsS, nodes, zv, bv, sv, nv, caseA, VZ, BEq.rfl, seval, -Int.reduceNatCast', kAgg, scD, List.all_cons, List.all_nil]
  have hk' : k = m.length := by
    have : ¬ k < m.length := by simpa using h
    omega
  subst hk'
  clear h
  rw [List.take_length] at hpre
  have e1 : decide ((t.length : Int) ≤ 100) = decide (t.length ≤ 100) := by congr 1; exact propext ⟨fun h => by omega, fun h => by omega⟩
  have e2 : decide ((m.length : Int) ≤ 20) = decide (m.length ≤ 20) := by congr 1; exact propext ⟨fun h => by omega, fun h => by omega⟩
  have e3 : decide ((st.length : Int) ≤ 200) = decide (st.length ≤ 200) := by congr 1; exact propext ⟨fun h => by omega, fun h => by omega⟩
  have e4 : decide ((all.length : Int) ≤ 200) = decide (all.length ≤ 200) := by congr 1; exact propext ⟨fun h => by omega, fun h => by omega⟩
  simp only [fewB, hpre, hN, e1, e2, e3, e4, nums, rowsS, nodes, zv, bv, sv, nv, caseA, VZ, BEq.rfl, seval, -Int.reduceNatCast', kAgg, scD, List.all_cons, List.all_nil]
  repeat' (refine guardB.mk (fun h => ?_) (fun h => ?_) <;> simp only [h, e1, e2, e3, e4, nums, rowsS, nodes, zv, bv, sv, nv, caseA, VZ, BEq.rfl, seval, -Int.reduceNatCast', kAgg, scD, List.all_cons, List.all_nil])

theorem same_ok (t t' : List Node) (m m' : List (List Int)) (st st' all all' : List Int) (r r' : Int) :
    Ok Try.prog E 32 [caseA t m st all r, caseA t' m' st' all' r'] (bv (decide (t = t') && (decide (st = st') && (decide (all = all') && decide (m = m'))))) := by
  refine ok_of_vc (L := []) (ts := [4]) envOK mixed Try.func32 rfl (by kernel_rfl) rfl (by kernel_rfl) rfl fun hl => ?_
  simp only [Try.f32, nums, rowsS, nodes, zv, bv, sv, nv, caseA, VZ, BEq.rfl, seval, -Int.reduceNatCast', kAgg, scD, List.all_cons, List.all_nil]
  refine CallX.mk (equalN_ok t t') rfl ?_
  simp only [nums, rowsS, nodes, zv, bv, sv, nv, caseA, VZ, BEq.rfl, seval, -Int.reduceNatCast', kAgg, scD, List.all_cons, List.all_nil]
  refine guardB.mk (fun h => ?_) (fun h => ?_) <;> simp only [h, nums, rowsS, nodes, zv, bv, sv, nv, caseA, VZ, BEq.rfl, seval, -Int.reduceNatCast', kAgg, scD, List.all_cons, List.all_nil]
  refine CallX.mk (equal_ok st st') rfl ?_
  simp only [nums, rowsS, nodes, zv, bv, sv, nv, caseA, VZ, BEq.rfl, seval, -Int.reduceNatCast', kAgg, scD, List.all_cons, List.all_nil]
  refine guardB.mk (fun h => ?_) (fun h => ?_) <;> simp only [h, nums, rowsS, nodes, zv, bv, sv, nv, caseA, VZ, BEq.rfl, seval, -Int.reduceNatCast', kAgg, scD, List.all_cons, List.all_nil]
  refine CallX.mk (equal_ok all all') rfl ?_
  simp only [nums, rowsS, nodes, zv, bv, sv, nv, caseA, VZ, BEq.rfl, seval, -Int.reduceNatCast', kAgg, scD, List.all_cons, List.all_nil]
  refine guardB.mk (fun h => ?_) (fun h => ?_) <;> simp only [h, nums, rowsS, nodes, zv, bv, sv, nv, caseA, VZ, BEq.rfl, seval, -Int.reduceNatCast', kAgg, scD, List.all_cons, List.all_nil]
  refine CallMVC.mk [] [] (equalF_ok m m') ?_ ?_
  · simp only [nums, rowsS, nodes, zv, bv, sv, nv, caseA, VZ, BEq.rfl, seval, -Int.reduceNatCast', kAgg, scD, List.all_cons, List.all_nil]
  simp only [nums, rowsS, nodes, zv, bv, sv, nv, caseA, VZ, BEq.rfl, seval, -Int.reduceNatCast', kAgg, scD, List.all_cons, List.all_nil]

theorem rows_nums (m : List (List Int)) (k : Nat) (h : k < m.length) : (m.take (k + 1)).map rowS = (m.take k).map rowS ++ [rowS (m.getD k [])] := by
  rw [List.take_add_one, List.map_append]
  simp [List.getElem?_eq_getElem h, List.getD]

/-- the state of the copying loop: no row yet, or an own slice of rows -/
def copS (t : List Node) (m : List (List Int)) (st all : List Int) (r : Int) : Nat → S
  | 0 => ⟨[(2, .bp 2 0), (3, .bp 3 0), (19, .c (rowsS m)), (20, nv m.length), (21, nv 0)], [(2, .cells [.c (.sc (.slice none 0 0)), .c (.sc (.slice none 0 0)), .c (.sc (.slice none 0 0)), .c (.sc (.slice none 0 0)), zv 0]),
      (3, .cells [.c (nodes t), .c (.sc (.slice none 0 0)), .c (nums st), .c (nums all), zv r])]⟩
  | k + 1 => ⟨[(2, .bp 2 0), (3, .bp 3 0), (19, .c (rowsS m)), (20, nv m.length), (21, nv (k + 1))], [(2, .cells [.c (.sc (.slice none 0 0)), .c (.sc (.slice none 0 0)), .c (.sc (.slice none 0 0)), .c (.sc (.slice none 0 0)), zv 0]),
      (3, .cells [.c (nodes t), .osl 1000 0, .c (nums st), .c (nums all), zv r]), (1000, .arr 29 0 ((m.take (k + 1)).map rowS))]⟩

theorem copied_ok (t : List Node) (m : List (List Int)) (st all : List Int) (r : Int) (h : Few t m st all) : Ok Try.prog E 29 [caseA t m st all r] (caseA t m st all r) := by
  refine ok_of_vcC (L := [(1, [(2, 3), (2, 4), (2, 6), (5, 6), (2, 7), (5, 7), (2, 9), (5, 9), (8, 9), (2, 10), (5, 10), (8, 10), (0, 12), (1, 12), (2, 12), (3, 12), (4, 12), (5, 12), (6, 12), (7, 12), (8, 12), (9, 12), (10, 12), (11, 12)]), (5, [(0, 3), (1, 3), (0, 4), (1, 4)])]) (rs := [.cell 2 49]) envOK mixed Try.func29 rfl (by kernel_rfl) rfl (by kernel_rfl) rfl fun hl => ?_
  obtain ⟨h1, h2, h3, h4, h5⟩ := h
  simp only [Try.f29, nums, rowsS, nodes, zv, bv, sv, nv, caseA, VZ, BEq.rfl, seval, -Int.reduceNatCast', kAgg, scD, List.all_cons, List.all_nil]
  refine CallX.mk (Ok.val (cloneN_ok t (by omega))) rfl ?_
  simp only [nums, rowsS, nodes, zv, bv, sv, nv, caseA, VZ, BEq.rfl, seval, -Int.reduceNatCast', kAgg, scD, List.all_cons, List.all_nil]
  refine CallX.mk (Ok.val (clone_ok st (by omega))) rfl ?_
  simp only [nums, rowsS, nodes, zv, bv, sv, nv, caseA, VZ, BEq.rfl, seval, -Int.reduceNatCast', kAgg, scD, List.all_cons, List.all_nil]
  refine CallX.mk (Ok.val (clone_ok all (by omega))) rfl ?_
  simp only [nums, rowsS, nodes, zv, bv, sv, nv, caseA, VZ, BEq.rfl, seval, -Int.reduceNatCast', kAgg, scD, List.all_cons, List.all_nil]
  refine LoopVC.mk (Y := Nat) (fun k => k ≤ m.length) (copS t m st all r) (fun k => m.length - k) ⟨0, Enter.mk [] [] [] ?_, by omega⟩ ?_
  · simp only [copS, nums, rowsS, nodes, zv, bv, sv, nv, caseA, VZ, BEq.rfl, seval, -Int.reduceNatCast', kAgg, scD, List.all_cons, List.all_nil]
    try rfl
  intro k hk
  cases k with
  | zero =>
    have e0 : decide (((0 : Nat) : Int) < (m.length : Int)) = decide (0 < m.length) := lt_nat 0 m.length
    simp only [copS, e0, nums, rowsS, nodes, zv, bv, sv, nv, caseA, VZ, BEq.rfl, seval, -Int.reduceNatCast', kAgg, scD, List.all_cons, List.all_nil]
    refine guardB.mk (fun h => ?_) (fun h => ?_)
    · have hk' : 0 < m.length := by simpa using h
      clear h
      have hr0 := rows_nums m 0 hk'
      have hrl := h5 0 hk'
      obtain ⟨x, hx⟩ : ∃ x, m.getD 0 [] = x := ⟨_, rfl⟩
      rw [hx] at hr0 hrl
      have c0 : ((0 : Nat) : Int) = 0 := rfl
      simp only [c0, getD_rowS m 0 hk', hx, rowS_def, nums, rowsS, nodes, zv, bv, sv, nv, caseA, VZ, BEq.rfl, seval, -Int.reduceNatCast', kAgg, scD, List.all_cons, List.all_nil]
      refine ⟨hk', ?_⟩
      refine CallX.mk (Ok.val (clone64_ok x (by omega))) rfl ?_
      simp only [nums, rowsS, nodes, zv, bv, sv, nv, caseA, VZ, BEq.rfl, seval, -Int.reduceNatCast', kAgg, scD, List.all_cons, List.all_nil]
      have hr1 : (m.take 1).map rowS = [[.sl (x.map num)]] := by rw [hr0, List.take_zero]; rfl
      refine ⟨allLen_rowS [x], 1, Enter.mk [] [] [(1000, 30)] ?_, hk', by show m.length - 1 < m.length - 0; omega⟩
      simp only [copS, hr1, nums, rowsS, nodes, zv, bv, sv, nv, caseA, VZ, BEq.rfl, seval, -Int.reduceNatCast', kAgg, scD, List.all_cons, List.all_nil]
      try rfl
    · have hk' : m = [] := by
        have : ¬ 0 < m.length := by simpa using h
        exact List.length_eq_zero_iff.1 (by omega)
      subst hk'
      simp only [nums, rowsS, nodes, zv, bv, sv, nv, caseA, VZ, BEq.rfl, seval, -Int.reduceNatCast', kAgg, scD, List.all_cons, List.all_nil]
  | succ k =>
    simp only [copS, lt_nat, nums, rowsS, nodes, zv, bv, sv, nv, caseA, VZ, BEq.rfl, seval, -Int.reduceNatCast', kAgg, scD, List.all_cons, List.all_nil]
    refine guardB.mk (fun h => ?_) (fun h => ?_)
    · have hk' : k + 1 < m.length := by simpa using h
      clear h
      have hr0 := rows_nums m (k + 1) hk'
      have hrl := h5 (k + 1) hk'
      obtain ⟨x, hx⟩ : ∃ x, m.getD (k + 1) [] = x := ⟨_, rfl⟩
      rw [hx] at hr0 hrl
      simp only [getD_rowS m (k + 1) hk', hx, rowS_def, nums, rowsS, nodes, zv, bv, sv, nv, caseA, VZ, BEq.rfl, seval, -Int.reduceNatCast', kAgg, scD, List.all_cons, List.all_nil]
      refine ⟨⟨Int.natCast_nonneg _, hk'⟩, ?_⟩
      refine CallX.mk (Ok.val (clone64_ok x (by omega))) rfl ?_
      simp only [nums, rowsS, nodes, zv, bv, sv, nv, caseA, VZ, BEq.rfl, seval, -Int.reduceNatCast', kAgg, scD, List.all_cons, List.all_nil]
      have hlt : (m.take (k + 1)).length = k + 1 := by rw [List.length_take]; omega
      rw [rowS_def] at hr0
      simp only [← hr0, hlt, wrap_nat (k := k + 1) (by omega), nums, rowsS, nodes, zv, bv, sv, nv, caseA, VZ, BEq.rfl, seval, -Int.reduceNatCast', kAgg, scD, List.all_cons, List.all_nil]
      refine ⟨⟨by omega, allLen_rowS [x]⟩, k + 2, Enter.mk [] [] [] ?_, hk', by show m.length - (k + 2) < m.length - (k + 1); omega⟩
      simp only [copS, nums, rowsS, nodes, zv, bv, sv, nv, caseA, VZ, BEq.rfl, seval, -Int.reduceNatCast', kAgg, scD, List.all_cons, List.all_nil]
    · have hk' : m.length = k + 1 := by
        have : ¬ k + 1 < m.length := by simpa using h
        omega
      simp only [← hk', List.take_length, nums, rowsS, nodes, zv, bv, sv, nv, caseA, VZ, BEq.rfl, seval, -Int.reduceNatCast', kAgg, scD, List.all_cons, List.all_nil]

end Go.Cp
end

section
set_option linter.unusedVariables false
set_option linter.unusedSimpArgs false
set_option maxHeartbeats 8000000
set_option maxRecDepth 10000
namespace Go.Cp
open Go Go.Proofs Go.Vx

def exT : List Node := [⟨-1, ⟨#[114]⟩⟩, ⟨0, ⟨#[120]⟩⟩, ⟨1, ⟨#[97]⟩⟩, ⟨1, ⟨#[98]⟩⟩, ⟨0, ⟨#[99]⟩⟩]
def exM : List (List Int) := [[0, 1], [2, 0]]
theorem ex1 : minV exT exM [1, 1, 0] = 1 := by kernel_rfl
theorem ex1e : errP exT exM [1, 1, 0] = 0 := by kernel_rfl
theorem ex2 : bestV exT exM [1, 1, 0] = [0, 1, 1, 1, 0] := by kernel_rfl
theorem ex3 : waysV exT exM [-1, -1, -1] = 2 := by kernel_rfl
theorem ex3e : errW exT exM [-1, -1, -1] = 0 := by kernel_rfl
theorem ex4 : costV exT exM [1, 1, 0, 0, 1] = 4 := by kernel_rfl
theorem ex4e : errV exT exM [1, 1, 0, 0, 1] = 0 := by kernel_rfl
theorem exS : Small exT := fun k hk => by
  have h : ∀ k : Fin 5, (exT.getD k.1 Node.zero).name.size ≤ 9223372036854775807 := by decide +kernel
  exact h ⟨k, hk⟩

theorem works_ok : Ok Try.prog E 22 [] (bv true) := by
  refine ok_of_vc (L := []) (ts := [0]) envOK mixed Try.func22 rfl (by kernel_rfl) rfl (by kernel_rfl) rfl fun hl => ?_
  simp only [Try.f22, nums, rowsS, nodes, zv, bv, sv, nv, VZ, BEq.rfl, seval, -Int.reduceNatCast', kAgg, scD, List.all_cons, List.all_nil]
  refine CallX.mk (Min_ok exT exM [1, 1, 0] exS) rfl ?_
  simp only [ex1, ex1e, nums, rowsS, nodes, zv, bv, sv, nv, VZ, BEq.rfl, seval, -Int.reduceNatCast', kAgg, scD, List.all_cons, List.all_nil]
  refine CallX.mk (Best_ok exT exM [1, 1, 0] exS) rfl ?_
  simp only [ex2, ex1e, nums, rowsS, nodes, zv, bv, sv, nv, VZ, BEq.rfl, seval, -Int.reduceNatCast', kAgg, scD, List.all_cons, List.all_nil]
  refine CallX.mk (Ways_ok exT exM [-1, -1, -1] exS) rfl ?_
  simp only [ex3, ex3e, nums, rowsS, nodes, zv, bv, sv, nv, VZ, BEq.rfl, seval, -Int.reduceNatCast', kAgg, scD, List.all_cons, List.all_nil]
  refine CallX.mk (Cost_ok exT exM [1, 1, 0, 0, 1] exS) rfl ?_
  simp only [ex4, ex4e, nums, rowsS, nodes, zv, bv, sv, nv, VZ, BEq.rfl, seval, -Int.reduceNatCast', kAgg, scD, List.all_cons, List.all_nil]
  refine CallX.mk (equal_ok [0, 1, 1, 1, 0] [0, 1, 1, 1, 0]) rfl ?_
  simp only [nums, rowsS, nodes, zv, bv, sv, nv, VZ, BEq.rfl, seval, -Int.reduceNatCast', kAgg, scD, List.all_cons, List.all_nil]

end Go.Cp
end

section
set_option linter.unusedVariables false
set_option linter.unusedSimpArgs false
set_option maxHeartbeats 8000000
set_option maxRecDepth 10000
namespace Go.Cp
open Go Go.Proofs Go.Vx

theorem list_of {α : Type} {Q : List D → Prop} {R : α → Prop} {enc : α → List D} (h : ∀ x, Q x → ∃ a, x = enc a ∧ R a) : ∀ xs : List (List D), (∀ x ∈ xs, Q x) → ∃ l : List α, xs = l.map enc ∧ ∀ a ∈ l, R a
  | [], _ => ⟨[], rfl, by simp⟩
  | x :: xs, hq => by
    obtain ⟨a, rfl, ha⟩ := h x (hq x (List.mem_cons_self ..))
    obtain ⟨l, rfl, hl⟩ := list_of h xs fun y hy => hq y (List.mem_cons_of_mem _ hy)
    exact ⟨a :: l, rfl, fun b hb => by
      rcases List.mem_cons.1 hb with rfl | hb
      · exact ha
      · exact hl b hb⟩
theorem typed_node {m : Nat} {x : List D} (h : Typed Try.prog (m + 2) 39 x) : ∃ c : Node, x = c.enc ∧ c.name.size ≤ 9223372036854775807 := by
  unfold Typed at h
  rw [Try.underlying39] at h
  obtain ⟨_, _, rfl, h1, _, _, rfl, h2, rfl⟩ := h
  simp only [Typed, Try.underlying3, TypedK] at h1
  simp only [Typed, Try.underlying9, TypedK] at h2
  obtain ⟨n, rfl, _⟩ := h1
  obtain ⟨s, rfl, hs⟩ := h2
  exact ⟨⟨n, s⟩, rfl, hs⟩
theorem typed_nodes {m : Nat} {x : List D} (h : Typed Try.prog (m + 3) 23 x) : ∃ l : List Node, x = [nodes l] ∧ Small l ∧ l.length ≤ 9223372036854775807 := by
  unfold Typed at h
  rw [Try.underlying23] at h
  obtain ⟨xs, rfl, hx, hl⟩ := h
  obtain ⟨l, rfl, hr⟩ := list_of (fun x hx => typed_node hx) xs hx
  rw [List.length_map] at hl
  refine ⟨l, rfl, fun k hk => ?_, hl⟩
  rw [List.getD, List.getElem?_eq_getElem hk]
  exact hr _ (List.getElem_mem hk)
theorem typed_int {m : Nat} {x : List D} (h : Typed Try.prog (m + 1) 3 x) : ∃ n : Int, x = num n ∧ True := by
  simp only [Typed, Try.underlying3, TypedK] at h
  obtain ⟨n, rfl, _⟩ := h
  exact ⟨n, rfl, trivial⟩
theorem typed_i64 {m : Nat} {x : List D} (h : Typed Try.prog (m + 1) 2 x) : ∃ n : Int, x = num n ∧ True := by
  simp only [Typed, Try.underlying2, TypedK] at h
  obtain ⟨n, rfl, _⟩ := h
  exact ⟨n, rfl, trivial⟩
theorem typed_nums {m : Nat} {x : List D} (h : Typed Try.prog (m + 2) 24 x) : ∃ l : List Int, x = [nums l] := by
  unfold Typed at h
  rw [Try.underlying24] at h
  obtain ⟨xs, rfl, hx, _⟩ := h
  obtain ⟨l, rfl, _⟩ := list_of (fun x hx => typed_int hx) xs hx
  exact ⟨l, rfl⟩
theorem typed_row {m : Nat} {x : List D} (h : Typed Try.prog (m + 2) 29 x) : ∃ l : List Int, x = rowS l ∧ True := by
  unfold Typed at h
  rw [Try.underlying29] at h
  obtain ⟨xs, rfl, hx, _⟩ := h
  obtain ⟨l, rfl, _⟩ := list_of (fun x hx => typed_i64 hx) xs hx
  exact ⟨l, rfl, trivial⟩
theorem typed_rows {m : Nat} {x : List D} (h : Typed Try.prog (m + 3) 28 x) : ∃ l : List (List Int), x = [rowsS l] ∧ l.length ≤ 9223372036854775807 := by
  unfold Typed at h
  rw [Try.underlying28] at h
  obtain ⟨xs, rfl, hx, hl⟩ := h
  obtain ⟨l, rfl, _⟩ := list_of (fun x hx => typed_row hx) xs hx
  rw [List.length_map] at hl
  exact ⟨l, rfl, hl⟩
structure CaseIn (t : List Node) (m : List (List Int)) : Prop where
  small : Small t
  tl : t.length ≤ 9223372036854775807
  ml : m.length ≤ 9223372036854775807
theorem typed_case {k : Nat} {x : List D} (h : Typed Try.prog (k + 4) 49 x) : ∃ t m st all r, x = [nodes t, rowsS m, nums st, nums all, .sc (.int .i64 r)] ∧ CaseIn t m := by
  unfold Typed at h
  rw [Try.underlying49] at h
  obtain ⟨_, _, rfl, h1, _, _, rfl, h2, _, _, rfl, h3, _, _, rfl, h4, _, _, rfl, h5, rfl⟩ := h
  obtain ⟨t, rfl, hs, hl⟩ := typed_nodes h1
  obtain ⟨m, rfl, hm⟩ := typed_rows h2
  obtain ⟨st, rfl⟩ := typed_nums (m := k + 1) h3
  obtain ⟨all, rfl⟩ := typed_nums (m := k + 1) h4
  obtain ⟨r, rfl, _⟩ := typed_int (m := k + 2) h5
  exact ⟨t, m, st, all, r, rfl, hs, hl, hm⟩
theorem own : ownKnob Try.prog.godebug = none := by kernel_rfl
theorem laid : laidOutB Try.prog = true := by kernel_rfl

theorem typedL1 {P : Program} {m t1 : Nat} {dss : List (List D)} (h : TypedL P m [t1] dss) : ∃ x1, dss = [x1] ∧ Typed P m t1 x1 :=
  match dss, h with
  | [x1], ⟨h1, _⟩ => ⟨x1, rfl, h1⟩
theorem typedL2 {P : Program} {m t1 t2 : Nat} {dss : List (List D)} (h : TypedL P m [t1, t2] dss) : ∃ x1 x2, dss = [x1, x2] ∧ Typed P m t1 x1 ∧ Typed P m t2 x2 :=
  match dss, h with
  | [x1, x2], ⟨h1, h2, _⟩ => ⟨x1, x2, rfl, h1, h2⟩
theorem typedL3 {P : Program} {m t1 t2 t3 : Nat} {dss : List (List D)} (h : TypedL P m [t1, t2, t3] dss) : ∃ x1 x2 x3, dss = [x1, x2, x3] ∧ Typed P m t1 x1 ∧ Typed P m t2 x2 ∧ Typed P m t3 x3 :=
  match dss, h with
  | [x1, x2, x3], ⟨h1, h2, h3, _⟩ => ⟨x1, x2, x3, rfl, h1, h2, h3⟩
theorem typedL4 {P : Program} {m t1 t2 t3 t4 : Nat} {dss : List (List D)} (h : TypedL P m [t1, t2, t3, t4] dss) : ∃ x1 x2 x3 x4, dss = [x1, x2, x3, x4] ∧ Typed P m t1 x1 ∧ Typed P m t2 x2 ∧ Typed P m t3 x3 ∧ Typed P m t4 x4 :=
  match dss, h with
  | [x1, x2, x3, x4], ⟨h1, h2, h3, h4, _⟩ => ⟨x1, x2, x3, x4, rfl, h1, h2, h3, h4⟩
theorem typedL5 {P : Program} {m t1 t2 t3 t4 t5 : Nat} {dss : List (List D)} (h : TypedL P m [t1, t2, t3, t4, t5] dss) : ∃ x1 x2 x3 x4 x5, dss = [x1, x2, x3, x4, x5] ∧ Typed P m t1 x1 ∧ Typed P m t2 x2 ∧ Typed P m t3 x3 ∧ Typed P m t4 x4 ∧ Typed P m t5 x5 :=
  match dss, h with
  | [x1, x2, x3, x4, x5], ⟨h1, h2, h3, h4, h5, _⟩ => ⟨x1, x2, x3, x4, x5, rfl, h1, h2, h3, h4, h5⟩

end Go.Cp
end
