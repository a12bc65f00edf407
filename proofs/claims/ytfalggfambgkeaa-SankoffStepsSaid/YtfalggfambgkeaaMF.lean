/-
  Sankoff: the nodes from the last to the first; what a node costs at least. Conditions: none.
  Sankoff: the table of costs as a function of node and state; its bounds. Plain. Conditions: none.
  Sankoff: the costs of all states. Conditions: none.
-/
import Derived.Test.YtfalggfambgkeaaME

section
set_option linter.unusedVariables false
set_option linter.unusedSimpArgs false
set_option maxHeartbeats 4000000
set_option maxRecDepth 10000
namespace Go.Cp
open Go Go.Proofs Go.Vx

def backL (n : Nat) : List (List AV) := (List.range n).map fun (i : Nat) => [zv ((n : Int) - 1 - (i : Int))]
theorem backL_len (n : Nat) : (backL n).length = n := by simp [backL]
theorem backL_get {n k : Nat} (h : k < n) : (backL n)[k]? = some [zv ((n : Int) - 1 - (k : Int))] := by simp [backL, h]

theorem backwards_ok (t : List Node) : OkM Try.prog E 52 [.c (nodes t)] [] (.fn 77 [.bp 2001 0]) [(2001, .cells [.c (nodes t)])] := by
  refine okM_of_vc (L := []) (ts := [2]) envOK mixed Try.func52 rfl (by kernel_rfl) rfl (by decide) (by kernel_rfl) rfl fun hl hlb => ?_
  simp only [Try.f52, nums, rowsS, nodes, zv, bv, sv, nv, VZ, BEq.rfl, seval, -Int.reduceNatCast', kAgg, scD, List.all_cons, List.all_nil]
  refine Enter.mk [] [] [(2001, 1)] ?_
  simp only [nums, rowsS, nodes, zv, bv, sv, nv, VZ, BEq.rfl, seval, -Int.reduceNatCast', kAgg, scD, List.all_cons, List.all_nil]

theorem back_seq (t : List Node) (hn : t.length ≤ 63) : SeqM Try.prog E 77 [.bp 2001 0] [(2001, .cells [.c (nodes t)])] (backL t.length) := by
  refine seqM_of_vc (L := []) envOK mixed Try.func77 rfl (by kernel_rfl) rfl (by kernel_rfl) rfl fun hl l => ?_
  simp only [Try.f77, nums, rowsS, nodes, zv, bv, sv, nv, VZ, BEq.rfl, seval, -Int.reduceNatCast', kAgg, scD, List.all_cons, List.all_nil]
  refine LoopY.mk (Y := Nat) (fun k => k ≤ t.length) some (fun k => ⟨[(0, yieldV l), (1, .bp 2001 0), (5, nv t.length), (6, nv k)], [(2001, .cells [.c (nodes t)])]⟩) (fun k => t.length - k) ⟨0, rfl, Enter.id ?_, by omega⟩ ?_
  · simp only [yieldV, nums, rowsS, nodes, zv, bv, sv, nv, VZ, BEq.rfl, seval, -Int.reduceNatCast', kAgg, scD, List.all_cons, List.all_nil]
    try rfl
  intro k hk
  simp only [yieldV, lt_nat, nums, rowsS, nodes, zv, bv, sv, nv, VZ, BEq.rfl, seval, -Int.reduceNatCast', kAgg, scD, List.all_cons, List.all_nil]
  refine guardB.mk (fun h => ?_) (fun h => ?_)
  · have hk' : k < t.length := by simpa using h
    clear h
    have hw : IntKind.i64.wrap (IntKind.i64.wrap ((t.length : Int) - 1) - (k : Int)) = (t.length : Int) - 1 - (k : Int) := by
      rw [wrap_in (n := (t.length : Int) - 1) (by omega) (by omega), wrap_in (by omega) (by omega)]
    simp only [hw, nums, rowsS, nodes, zv, bv, sv, nv, VZ, BEq.rfl, seval, -Int.reduceNatCast', kAgg, scD, List.all_cons, List.all_nil]
    refine YieldVC.mk (k := k) rfl (backL_get hk') ?_ ?_
    · simp only [wrap_nat (k := k) (by omega), nums, rowsS, nodes, zv, bv, sv, nv, VZ, BEq.rfl, seval, -Int.reduceNatCast', kAgg, scD, List.all_cons, List.all_nil]
      refine ⟨k + 1, rfl, Enter.id ?_, by omega, by show t.length - (k + 1) < t.length - k; omega⟩
      simp only [nums, rowsS, nodes, zv, bv, sv, nv, VZ, BEq.rfl, seval, -Int.reduceNatCast', kAgg, scD, List.all_cons, List.all_nil]
    · simp only [nums, rowsS, nodes, zv, bv, sv, nv, VZ, BEq.rfl, seval, -Int.reduceNatCast', kAgg, scD, List.all_cons, List.all_nil]
  · have hk' : k = t.length := by
      have : ¬ k < t.length := by simpa using h
      omega
    subst hk'
    simp only [nums, rowsS, nodes, zv, bv, sv, nv, VZ, BEq.rfl, seval, -Int.reduceNatCast', kAgg, scD, List.all_cons, List.all_nil]
    exact (backL_len _).symm

/-! what node v costs at least -/
def cellAt (m : List (List Int)) (a b : Nat) : Int := (m.getD a []).getD b 0
def stepI (m T : List (List Int)) (v a b : Nat) : Int := if cellAt m a b = -1 ∨ cellAt T v b = -1 then -1 else cellAt m a b + cellAt T v b
abbrev costsD (T : List (List Int)) : D := .sl (T.map rowE)
/-- a table of costs: n rows of 12 -/
def Tab (n : Nat) (T : List (List Int)) : Prop := T.length = n ∧ (∀ v, v < n → (T.getD v []).length = 12) ∧ ∀ v s, -1 ≤ cellAt T v s ∧ cellAt T v s ≤ 4611686018427387904
def Mat (m : List (List Int)) : Prop := 0 < m.length ∧ m.length ≤ 12 ∧ (∀ a, a < m.length → (m.getD a []).length = m.length) ∧ ∀ a b, -1 ≤ cellAt m a b ∧ cellAt m a b ≤ 1073741824
theorem okM_mat {m : List (List Int)} (h : okM m = true) : Mat m := by
  simp only [okM, Bool.and_eq_true, decide_eq_true_eq, List.all_eq_true] at h
  obtain ⟨h0, h1, h2⟩ := h
  have hr : ∀ a, a < m.length → okRow m.length (m.getD a []) = true := fun a ha => by
    rw [List.getD, List.getElem?_eq_getElem ha]
    exact h2 _ (List.getElem_mem ha)
  refine ⟨h0, h1, fun a ha => ?_, fun a b => ?_⟩
  · have := hr a ha
    simp only [okRow, Bool.and_eq_true, decide_eq_true_eq] at this
    exact this.1
  · by_cases ha : a < m.length
    · have := hr a ha
      simp only [okRow, Bool.and_eq_true, decide_eq_true_eq, List.all_eq_true] at this
      by_cases hb : b < (m.getD a []).length
      · have := this.2 _ (List.getElem_mem hb)
        simp only [okX, Bool.and_eq_true, decide_eq_true_eq] at this
        rw [cellAt, List.getD, List.getElem?_eq_getElem hb]
        exact this
      · rw [cellAt, List.getD, List.getElem?_eq_none (by omega)]
        exact ⟨by decide, by decide⟩
    · have : m.getD a [] = [] := by rw [List.getD, List.getElem?_eq_none (by omega)]; rfl
      rw [cellAt, this]
      simp

theorem drop_rowE {r : List Int} {b : Nat} (h : b < r.length) : (rowE r).drop (b * 1) = .sc (.int .i64 (r.getD b 0)) :: (rowE r).drop (b + 1) := by
  rw [Nat.mul_one, List.drop_eq_getElem_cons (by rw [rowE, List.length_map]; exact h)]
  simp [rowE, List.getD, List.getElem?_eq_getElem h]

theorem step_ok (t : List Node) (m T : List (List Int)) (v a b n : Nat) (hm : Mat m) (hT : Tab n T) (hv : v < n) (ha : a < m.length) (hb : b < m.length) :
    Ok Try.prog E 54 [.ag [nodes t, rowsS m, costsD T], nv v, nv a, nv b] (zv (stepI m T v a b)) := by
  refine ok_of_vc (L := []) (ts := [8]) envOK mixed Try.func54 rfl (by kernel_rfl) rfl (by kernel_rfl) rfl fun hl => ?_
  obtain ⟨m0, m12, mr, mx⟩ := hm
  obtain ⟨Tl, Tr, Tx⟩ := hT
  have hra := mr a ha
  have hrv := Tr v hv
  have hxa := mx a b
  have hxv := Tx v b
  have ex : (m.getD a []).getD b 0 = cellAt m a b := rfl
  have ey : (T.getD v []).getD b 0 = cellAt T v b := rfl
  simp only [Try.f54, costsD, getD_rowS m a ha, rowS_def, getD_num (m.getD a []) b (by omega), getD_rowE T v (by omega), num_def, ex, ey, int_beq, drop_rowE (show b < (T.getD v []).length by omega), nums, rowsS, nodes, zv, bv, sv, nv, VZ, BEq.rfl, seval, -Int.reduceNatCast', kAgg, scD, List.all_cons, List.all_nil]
  refine ⟨⟨Int.natCast_nonneg a, ha⟩, ⟨Int.natCast_nonneg b, by omega⟩, ?_⟩
  refine guardB.mk (fun h => ?_) (fun h => ?_) <;> simp only [h, costsD, getD_rowS m a ha, rowS_def, getD_num (m.getD a []) b (by omega), getD_rowE T v (by omega), num_def, ex, ey, int_beq, drop_rowE (show b < (T.getD v []).length by omega), nums, rowsS, nodes, zv, bv, sv, nv, VZ, BEq.rfl, seval, -Int.reduceNatCast', kAgg, scD, List.all_cons, List.all_nil]
  · have h : cellAt m a b = -1 := by simpa using h
    simp only [stepI, h, true_or, if_true, nums, rowsS, nodes, zv, bv, sv, nv, VZ, BEq.rfl, seval, -Int.reduceNatCast', kAgg, scD, List.all_cons, List.all_nil]
  have h1 : cellAt m a b ≠ -1 := by simpa using h
  clear h
  have hlr : (rowE (T.getD v [])).length = 12 := by rw [rowE, List.length_map, hrv]
  refine ⟨⟨Int.natCast_nonneg v, by omega, hlr⟩, ⟨Int.natCast_nonneg b, by omega⟩, ?_⟩
  refine guardB.mk (fun h => ?_) (fun h => ?_) <;> simp only [h, costsD, getD_rowS m a ha, rowS_def, getD_num (m.getD a []) b (by omega), getD_rowE T v (by omega), num_def, ex, ey, int_beq, drop_rowE (show b < (T.getD v []).length by omega), nums, rowsS, nodes, zv, bv, sv, nv, VZ, BEq.rfl, seval, -Int.reduceNatCast', kAgg, scD, List.all_cons, List.all_nil]
  · have h : cellAt T v b = -1 := by simpa using h
    simp only [stepI, h, or_true, if_true, nums, rowsS, nodes, zv, bv, sv, nv, VZ, BEq.rfl, seval, -Int.reduceNatCast', kAgg, scD, List.all_cons, List.all_nil]
  have h2 : cellAt T v b ≠ -1 := by simpa using h
  have hs : stepI m T v a b = cellAt m a b + cellAt T v b := by
    rw [stepI, if_neg]
    rintro (h | h)
    · exact h1 h
    · exact h2 h
  clear h
  simp only [hs, wrap_in (n := cellAt m a b + cellAt T v b) (by omega) (by omega), nums, rowsS, nodes, zv, bv, sv, nv, VZ, BEq.rfl, seval, -Int.reduceNatCast', kAgg, scD, List.all_cons, List.all_nil]
  exact ⟨⟨Int.natCast_nonneg a, ha⟩, ⟨Int.natCast_nonneg b, by omega⟩, ⟨Int.natCast_nonneg v, by omega, hlr⟩, Int.natCast_nonneg b, by omega⟩

/-- the first of the smallest costs, among the first k states; -1: none -/
def bestTo (c : Nat → Int) : Nat → Int × Int
  | 0 => (-1, -1)
  | k + 1 => if c k ≠ -1 ∧ ((bestTo c k).1 = -1 ∨ c k < (bestTo c k).1) then (c k, (k : Int)) else bestTo c k

def lBx (t : List Node) (m T : List (List Int)) (v a : Nat) : List (Nat × Box) := [(2001, .cells [.c (nodes t), .c (rowsS m), .c (costsD T)]), (2002, .cells [nv v]), (2003, .cells [nv a])]
def rBx (t : List Node) (m T : List (List Int)) : List (Nat × Box) := [(2001, .cells [.c (nodes t), .c (rowsS m), .c (costsD T)])]

theorem lfun_ok (t : List Node) (m T : List (List Int)) (v a b n : Nat) (hm : Mat m) (hT : Tab n T) (hv : v < n) (ha : a < m.length) (hb : b < m.length) :
    OkM Try.prog E 78 [nv b, .bp 2001 0, .bp 2002 0, .bp 2003 0] (lBx t m T v a) (zv (stepI m T v a b)) (lBx t m T v a) := by
  refine okM_of_vc (L := []) (ts := [5]) envOK mixed Try.func78 rfl (by kernel_rfl) rfl (by decide) (by kernel_rfl) rfl fun hl hlb => ?_
  simp only [Try.f78, lBx, costsD, nums, rowsS, nodes, zv, bv, sv, nv, VZ, BEq.rfl, seval, -Int.reduceNatCast', kAgg, scD, List.all_cons, List.all_nil]
  refine CallX.mk (step_ok t m T v a b n hm hT hv ha hb) rfl ?_
  simp only [nums, rowsS, nodes, zv, bv, sv, nv, VZ, BEq.rfl, seval, -Int.reduceNatCast', kAgg, scD, List.all_cons, List.all_nil]
  refine Enter.mk [] [] [] ?_
  simp only [nums, rowsS, nodes, zv, bv, sv, nv, VZ, BEq.rfl, seval, -Int.reduceNatCast', kAgg, scD, List.all_cons, List.all_nil]

theorem rfun_ok (t : List Node) (m T : List (List Int)) (b n : Nat) (hm : Mat m) (hT : Tab n T) (hv : 0 < n) (hb : b < m.length) :
    OkM Try.prog E 76 [nv b, .bp 2001 0] (rBx t m T) (zv (cellAt T 0 b)) (rBx t m T) := by
  refine okM_of_vc (L := []) (ts := [3]) envOK mixed Try.func76 rfl (by kernel_rfl) rfl (by decide) (by kernel_rfl) rfl fun hl hlb => ?_
  obtain ⟨m0, m12, mr, mx⟩ := hm
  obtain ⟨Tl, Tr, Tx⟩ := hT
  have hr0 := Tr 0 hv
  have hlr : (rowE (T.getD 0 [])).length = 12 := by rw [rowE, List.length_map, hr0]
  simp only [Try.f76, rBx, costsD, getD_rowE T 0 (by omega), drop_rowE (show b < (T.getD 0 []).length by omega), nums, rowsS, nodes, zv, bv, sv, nv, VZ, BEq.rfl, seval, -Int.reduceNatCast', kAgg, scD, List.all_cons, List.all_nil]
  refine ⟨⟨by omega, hlr⟩, ⟨Int.natCast_nonneg b, by omega⟩, Enter.mk [] [] [] ?_⟩
  simp only [nums, rowsS, nodes, zv, bv, sv, nv, VZ, BEq.rfl, seval, -Int.reduceNatCast', kAgg, scD, List.all_cons, List.all_nil]
  try rfl

theorem bestTo_succ (c : Nat → Int) (k : Nat) : bestTo c (k + 1) = if c k ≠ -1 ∧ ((bestTo c k).1 = -1 ∨ c k < (bestTo c k).1) then (c k, (k : Int)) else bestTo c k := rfl

theorem bestL_ok (t : List Node) (m T : List (List Int)) (v a n : Nat) (hm : Mat m) (hT : Tab n T) (hv : v < n) (ha : a < m.length) :
    OkM Try.prog E 75 [.ag [nodes t, rowsS m, costsD T], .fn 78 [.bp 2001 0, .bp 2002 0, .bp 2003 0]] (lBx t m T v a) (.tp [zv (bestTo (stepI m T v a) m.length).1, zv (bestTo (stepI m T v a) m.length).2]) (lBx t m T v a) := by
  refine okM_of_vc (L := []) (ts := [4, 5]) envOK mixed Try.func75 rfl (by kernel_rfl) rfl (by decide) (by kernel_rfl) rfl fun hl hlb => ?_
  have m12 := hm.2.1
  simp only [Try.f75, lBx, costsD, nums, rowsS, nodes, zv, bv, sv, nv, VZ, BEq.rfl, seval, -Int.reduceNatCast', kAgg, scD, List.all_cons, List.all_nil]
  refine LoopVC.mk (Y := Nat) (fun k => k ≤ m.length) (fun k => ⟨[(1, .fn 78 [.bp 2001 0, .bp 2002 0, .bp 2003 0]), (6, zv (bestTo (stepI m T v a) k).1), (7, zv (bestTo (stepI m T v a) k).2), (12, nv m.length), (13, nv k)], lBx t m T v a⟩) (fun k => m.length - k) ⟨0, Enter.mk [] [] [] ?_, by omega⟩ ?_
  · simp only [bestTo, lBx, rBx, costsD, nums, rowsS, nodes, zv, bv, sv, nv, VZ, BEq.rfl, seval, -Int.reduceNatCast', kAgg, scD, List.all_cons, List.all_nil]
    try rfl
  intro k hk
  have hsucc := bestTo_succ (stepI m T v a) k
  simp only [lt_nat, lBx, rBx, costsD, nums, rowsS, nodes, zv, bv, sv, nv, VZ, BEq.rfl, seval, -Int.reduceNatCast', kAgg, scD, List.all_cons, List.all_nil]
  refine guardB.mk (fun h => ?_) (fun h => ?_)
  · have hk' : k < m.length := by simpa using h
    clear h
    simp only [nums, rowsS, nodes, zv, bv, sv, nv, VZ, BEq.rfl, seval, -Int.reduceNatCast', kAgg, scD, List.all_cons, List.all_nil]
    refine CallMVC.mk [] [] (lfun_ok t m T v a k n hm hT hv ha hk') ?_ ?_
    · simp only [lBx, rBx, costsD, nums, rowsS, nodes, zv, bv, sv, nv, VZ, BEq.rfl, seval, -Int.reduceNatCast', kAgg, scD, List.all_cons, List.all_nil]
    obtain ⟨x, hx⟩ : ∃ x, (stepI m T v a) k = x := ⟨_, rfl⟩
    obtain ⟨y, hy⟩ : ∃ y, bestTo (stepI m T v a) k = y := ⟨_, rfl⟩
    obtain ⟨l, f⟩ := y
    rw [hx, hy] at hsucc
    simp only [lBx, rBx, costsD, hx, hy, bne, int_beq, nums, rowsS, nodes, zv, bv, sv, nv, VZ, BEq.rfl, seval, -Int.reduceNatCast', kAgg, scD, List.all_cons, List.all_nil]
    have hw := wrap_nat (k := k) (by omega)
    refine guardB.mk (fun h => ?_) (fun h => ?_) <;> simp only [h, int_beq, nums, rowsS, nodes, zv, bv, sv, nv, VZ, BEq.rfl, seval, -Int.reduceNatCast', kAgg, scD, List.all_cons, List.all_nil]
    · have h1 : x ≠ -1 := by simpa using h
      clear h
      refine guardB.mk (fun h => ?_) (fun h => ?_) <;> simp only [h, nums, rowsS, nodes, zv, bv, sv, nv, VZ, BEq.rfl, seval, -Int.reduceNatCast', kAgg, scD, List.all_cons, List.all_nil]
      · have h2 : l = -1 := by simpa using h
        rw [if_pos (by exact ⟨h1, .inl h2⟩)] at hsucc
        simp only [hw, nums, rowsS, nodes, zv, bv, sv, nv, VZ, BEq.rfl, seval, -Int.reduceNatCast', kAgg, scD, List.all_cons, List.all_nil]
        refine ⟨k + 1, Enter.mk [] [] [] ?_, by omega, by show m.length - (k + 1) < m.length - k; omega⟩
        simp only [hsucc, nums, rowsS, nodes, zv, bv, sv, nv, VZ, BEq.rfl, seval, -Int.reduceNatCast', kAgg, scD, List.all_cons, List.all_nil]
      · have h2 : l ≠ -1 := by simpa using h
        clear h
        refine guardB.mk (fun h => ?_) (fun h => ?_) <;> simp only [h, nums, rowsS, nodes, zv, bv, sv, nv, VZ, BEq.rfl, seval, -Int.reduceNatCast', kAgg, scD, List.all_cons, List.all_nil]
        · have h3 : x < l := by simpa using h
          rw [if_pos (by exact ⟨h1, .inr h3⟩)] at hsucc
          simp only [hw, nums, rowsS, nodes, zv, bv, sv, nv, VZ, BEq.rfl, seval, -Int.reduceNatCast', kAgg, scD, List.all_cons, List.all_nil]
          refine ⟨k + 1, Enter.mk [] [] [] ?_, by omega, by show m.length - (k + 1) < m.length - k; omega⟩
          simp only [hsucc, nums, rowsS, nodes, zv, bv, sv, nv, VZ, BEq.rfl, seval, -Int.reduceNatCast', kAgg, scD, List.all_cons, List.all_nil]
        · have h3 : ¬ x < l := by simpa using h
          rw [if_neg (by exact fun h => h.2.elim h2 h3)] at hsucc
          simp only [hw, nums, rowsS, nodes, zv, bv, sv, nv, VZ, BEq.rfl, seval, -Int.reduceNatCast', kAgg, scD, List.all_cons, List.all_nil]
          refine ⟨k + 1, Enter.mk [] [] [] ?_, by omega, by show m.length - (k + 1) < m.length - k; omega⟩
          simp only [hsucc, nums, rowsS, nodes, zv, bv, sv, nv, VZ, BEq.rfl, seval, -Int.reduceNatCast', kAgg, scD, List.all_cons, List.all_nil]
    · have h1 : x = -1 := by simpa using h
      rw [if_neg (by exact fun h => h.1 h1)] at hsucc
      simp only [hw, nums, rowsS, nodes, zv, bv, sv, nv, VZ, BEq.rfl, seval, -Int.reduceNatCast', kAgg, scD, List.all_cons, List.all_nil]
      refine ⟨k + 1, Enter.mk [] [] [] ?_, by omega, by show m.length - (k + 1) < m.length - k; omega⟩
      simp only [hsucc, nums, rowsS, nodes, zv, bv, sv, nv, VZ, BEq.rfl, seval, -Int.reduceNatCast', kAgg, scD, List.all_cons, List.all_nil]
  · have hk' : k = m.length := by
      have : ¬ k < m.length := by simpa using h
      omega
    subst hk'
    simp only [nums, rowsS, nodes, zv, bv, sv, nv, VZ, BEq.rfl, seval, -Int.reduceNatCast', kAgg, scD, List.all_cons, List.all_nil]
    refine Enter.mk [] [] [] ?_
    simp only [nums, rowsS, nodes, zv, bv, sv, nv, VZ, BEq.rfl, seval, -Int.reduceNatCast', kAgg, scD, List.all_cons, List.all_nil]

theorem bestR_ok (t : List Node) (m T : List (List Int)) (n : Nat) (hm : Mat m) (hT : Tab n T) (hv : 0 < n) :
    OkM Try.prog E 75 [.ag [nodes t, rowsS m, costsD T], .fn 76 [.bp 2001 0]] (rBx t m T) (.tp [zv (bestTo (cellAt T 0) m.length).1, zv (bestTo (cellAt T 0) m.length).2]) (rBx t m T) := by
  refine okM_of_vc (L := []) (ts := [4, 5]) envOK mixed Try.func75 rfl (by kernel_rfl) rfl (by decide) (by kernel_rfl) rfl fun hl hlb => ?_
  have m12 := hm.2.1
  simp only [Try.f75, rBx, costsD, nums, rowsS, nodes, zv, bv, sv, nv, VZ, BEq.rfl, seval, -Int.reduceNatCast', kAgg, scD, List.all_cons, List.all_nil]
  refine LoopVC.mk (Y := Nat) (fun k => k ≤ m.length) (fun k => ⟨[(1, .fn 76 [.bp 2001 0]), (6, zv (bestTo (cellAt T 0) k).1), (7, zv (bestTo (cellAt T 0) k).2), (12, nv m.length), (13, nv k)], rBx t m T⟩) (fun k => m.length - k) ⟨0, Enter.mk [] [] [] ?_, by omega⟩ ?_
  · simp only [bestTo, lBx, rBx, costsD, nums, rowsS, nodes, zv, bv, sv, nv, VZ, BEq.rfl, seval, -Int.reduceNatCast', kAgg, scD, List.all_cons, List.all_nil]
    try rfl
  intro k hk
  have hsucc := bestTo_succ (cellAt T 0) k
  simp only [lt_nat, lBx, rBx, costsD, nums, rowsS, nodes, zv, bv, sv, nv, VZ, BEq.rfl, seval, -Int.reduceNatCast', kAgg, scD, List.all_cons, List.all_nil]
  refine guardB.mk (fun h => ?_) (fun h => ?_)
  · have hk' : k < m.length := by simpa using h
    clear h
    simp only [nums, rowsS, nodes, zv, bv, sv, nv, VZ, BEq.rfl, seval, -Int.reduceNatCast', kAgg, scD, List.all_cons, List.all_nil]
    refine CallMVC.mk [] [] (rfun_ok t m T k n hm hT hv hk') ?_ ?_
    · simp only [lBx, rBx, costsD, nums, rowsS, nodes, zv, bv, sv, nv, VZ, BEq.rfl, seval, -Int.reduceNatCast', kAgg, scD, List.all_cons, List.all_nil]
    obtain ⟨x, hx⟩ : ∃ x, (cellAt T 0) k = x := ⟨_, rfl⟩
    obtain ⟨y, hy⟩ : ∃ y, bestTo (cellAt T 0) k = y := ⟨_, rfl⟩
    obtain ⟨l, f⟩ := y
    rw [hx, hy] at hsucc
    simp only [lBx, rBx, costsD, hx, hy, bne, int_beq, nums, rowsS, nodes, zv, bv, sv, nv, VZ, BEq.rfl, seval, -Int.reduceNatCast', kAgg, scD, List.all_cons, List.all_nil]
    have hw := wrap_nat (k := k) (by omega)
    refine guardB.mk (fun h => ?_) (fun h => ?_) <;> simp only [h, int_beq, nums, rowsS, nodes, zv, bv, sv, nv, VZ, BEq.rfl, seval, -Int.reduceNatCast', kAgg, scD, List.all_cons, List.all_nil]
    · have h1 : x ≠ -1 := by simpa using h
      clear h
      refine guardB.mk (fun h => ?_) (fun h => ?_) <;> simp only [h, nums, rowsS, nodes, zv, bv, sv, nv, VZ, BEq.rfl, seval, -Int.reduceNatCast', kAgg, scD, List.all_cons, List.all_nil]
      · have h2 : l = -1 := by simpa using h
        rw [if_pos (by exact ⟨h1, .inl h2⟩)] at hsucc
        simp only [hw, nums, rowsS, nodes, zv, bv, sv, nv, VZ, BEq.rfl, seval, -Int.reduceNatCast', kAgg, scD, List.all_cons, List.all_nil]
        refine ⟨k + 1, Enter.mk [] [] [] ?_, by omega, by show m.length - (k + 1) < m.length - k; omega⟩
        simp only [hsucc, nums, rowsS, nodes, zv, bv, sv, nv, VZ, BEq.rfl, seval, -Int.reduceNatCast', kAgg, scD, List.all_cons, List.all_nil]
      · have h2 : l ≠ -1 := by simpa using h
        clear h
        refine guardB.mk (fun h => ?_) (fun h => ?_) <;> simp only [h, nums, rowsS, nodes, zv, bv, sv, nv, VZ, BEq.rfl, seval, -Int.reduceNatCast', kAgg, scD, List.all_cons, List.all_nil]
        · have h3 : x < l := by simpa using h
          rw [if_pos (by exact ⟨h1, .inr h3⟩)] at hsucc
          simp only [hw, nums, rowsS, nodes, zv, bv, sv, nv, VZ, BEq.rfl, seval, -Int.reduceNatCast', kAgg, scD, List.all_cons, List.all_nil]
          refine ⟨k + 1, Enter.mk [] [] [] ?_, by omega, by show m.length - (k + 1) < m.length - k; omega⟩
          simp only [hsucc, nums, rowsS, nodes, zv, bv, sv, nv, VZ, BEq.rfl, seval, -Int.reduceNatCast', kAgg, scD, List.all_cons, List.all_nil]
        · have h3 : ¬ x < l := by simpa using h
          rw [if_neg (by exact fun h => h.2.elim h2 h3)] at hsucc
          simp only [hw, nums, rowsS, nodes, zv, bv, sv, nv, VZ, BEq.rfl, seval, -Int.reduceNatCast', kAgg, scD, List.all_cons, List.all_nil]
          refine ⟨k + 1, Enter.mk [] [] [] ?_, by omega, by show m.length - (k + 1) < m.length - k; omega⟩
          simp only [hsucc, nums, rowsS, nodes, zv, bv, sv, nv, VZ, BEq.rfl, seval, -Int.reduceNatCast', kAgg, scD, List.all_cons, List.all_nil]
    · have h1 : x = -1 := by simpa using h
      rw [if_neg (by exact fun h => h.1 h1)] at hsucc
      simp only [hw, nums, rowsS, nodes, zv, bv, sv, nv, VZ, BEq.rfl, seval, -Int.reduceNatCast', kAgg, scD, List.all_cons, List.all_nil]
      refine ⟨k + 1, Enter.mk [] [] [] ?_, by omega, by show m.length - (k + 1) < m.length - k; omega⟩
      simp only [hsucc, nums, rowsS, nodes, zv, bv, sv, nv, VZ, BEq.rfl, seval, -Int.reduceNatCast', kAgg, scD, List.all_cons, List.all_nil]
  · have hk' : k = m.length := by
      have : ¬ k < m.length := by simpa using h
      omega
    subst hk'
    simp only [nums, rowsS, nodes, zv, bv, sv, nv, VZ, BEq.rfl, seval, -Int.reduceNatCast', kAgg, scD, List.all_cons, List.all_nil]
    refine Enter.mk [] [] [] ?_
    simp only [nums, rowsS, nodes, zv, bv, sv, nv, VZ, BEq.rfl, seval, -Int.reduceNatCast', kAgg, scD, List.all_cons, List.all_nil]

theorem least_ok (t : List Node) (m T : List (List Int)) (v a n : Nat) (hm : Mat m) (hT : Tab n T) (hv : v < n) (ha : a < m.length) :
    Ok Try.prog E 53 [.ag [nodes t, rowsS m, costsD T], nv v, nv a] (.tp [zv (bestTo (stepI m T v a) m.length).1, zv (bestTo (stepI m T v a) m.length).2]) := by
  refine ok_of_vc (L := []) (ts := [6, 7]) envOK mixed Try.func53 rfl (by kernel_rfl) rfl (by kernel_rfl) rfl fun hl => ?_
  simp only [Try.f53, costsD, nums, rowsS, nodes, zv, bv, sv, nv, VZ, BEq.rfl, seval, -Int.reduceNatCast', kAgg, scD, List.all_cons, List.all_nil]
  refine CallMVC.mk [] [(2001, 3), (2002, 4), (2003, 5)] (bestL_ok t m T v a n hm hT hv ha) ?_ ?_
  · simp only [lBx, costsD, nums, rowsS, nodes, zv, bv, sv, nv, VZ, BEq.rfl, seval, -Int.reduceNatCast', kAgg, scD, List.all_cons, List.all_nil]
  simp only [lBx, costsD, nums, rowsS, nodes, zv, bv, sv, nv, VZ, BEq.rfl, seval, -Int.reduceNatCast', kAgg, scD, List.all_cons, List.all_nil]

theorem root_ok (t : List Node) (m T : List (List Int)) (n : Nat) (hm : Mat m) (hT : Tab n T) (hv : 0 < n) :
    Ok Try.prog E 51 [.ag [nodes t, rowsS m, costsD T]] (.tp [zv (bestTo (cellAt T 0) m.length).1, zv (bestTo (cellAt T 0) m.length).2]) := by
  refine ok_of_vc (L := []) (ts := [2, 3]) envOK mixed Try.func51 rfl (by kernel_rfl) rfl (by kernel_rfl) rfl fun hl => ?_
  simp only [Try.f51, costsD, nums, rowsS, nodes, zv, bv, sv, nv, VZ, BEq.rfl, seval, -Int.reduceNatCast', kAgg, scD, List.all_cons, List.all_nil]
  refine CallMVC.mk [] [(2001, 1)] (bestR_ok t m T n hm hT hv) ?_ ?_
  · simp only [rBx, costsD, nums, rowsS, nodes, zv, bv, sv, nv, VZ, BEq.rfl, seval, -Int.reduceNatCast', kAgg, scD, List.all_cons, List.all_nil]
  simp only [rBx, costsD, nums, rowsS, nodes, zv, bv, sv, nv, VZ, BEq.rfl, seval, -Int.reduceNatCast', kAgg, scD, List.all_cons, List.all_nil]

end Go.Cp
end

section
set_option linter.unusedVariables false
set_option linter.unusedSimpArgs false
set_option maxHeartbeats 4000000
set_option maxRecDepth 10000
namespace Go.Cp
open Go Go.Proofs Go.Vx

abbrev Fn2 := Nat → Nat → Int
def tabOf (n : Nat) (F : Fn2) : List (List Int) := (List.range n).map fun v => (List.range 12).map (F v)
def upd2 (F : Fn2) (v s : Nat) (x : Int) : Fn2 := fun u r => if u = v ∧ r = s then x else F u r

theorem tabOf_len (n : Nat) (F : Fn2) : (tabOf n F).length = n := by simp [tabOf]
theorem tabOf_row {n : Nat} {F : Fn2} {v : Nat} (h : v < n) : (tabOf n F).getD v [] = (List.range 12).map (F v) := by
  simp [tabOf, List.getD, h]
theorem tabOf_cell {n : Nat} {F : Fn2} {v s : Nat} (h : v < n) (hs : s < 12) : cellAt (tabOf n F) v s = F v s := by
  rw [cellAt, tabOf_row h]; simp [List.getD, hs]
theorem tabOf_out {n : Nat} {F : Fn2} {v s : Nat} (h : ¬ (v < n ∧ s < 12)) : cellAt (tabOf n F) v s = 0 := by
  rw [cellAt]
  by_cases hv : v < n
  · rw [tabOf_row hv, List.getD, List.getElem?_eq_none (by simp; omega)]; rfl
  · have : (tabOf n F).getD v [] = [] := by rw [List.getD, List.getElem?_eq_none (by rw [tabOf_len]; omega)]; rfl
    rw [this]; rfl
theorem tabOf_tab {n : Nat} {F : Fn2} (h : ∀ v s, v < n → s < 12 → -1 ≤ F v s ∧ F v s ≤ 4611686018427387904) : Tab n (tabOf n F) := by
  refine ⟨tabOf_len n F, fun v hv => by rw [tabOf_row hv]; simp, fun v s => ?_⟩
  by_cases hvs : v < n ∧ s < 12
  · rw [tabOf_cell hvs.1 hvs.2]; exact h v s hvs.1 hvs.2
  · rw [tabOf_out hvs]; omega
theorem tabOf_set {n : Nat} {F : Fn2} {v s : Nat} {x : Int} (hv : v < n) (hs : s < 12) : (tabOf n F).set v (((tabOf n F).getD v []).set s x) = tabOf n (upd2 F v s x) := by
  rw [tabOf_row hv]
  refine List.ext_getElem (by simp [tabOf]) fun i h1 h2 => ?_
  simp only [tabOf, List.getElem_set, List.getElem_map, List.getElem_range]
  by_cases hi : v = i
  · subst hi
    rw [if_pos rfl]
    refine List.ext_getElem (by simp) fun j h3 h4 => ?_
    simp only [List.getElem_set, List.getElem_map, List.getElem_range, upd2]
    by_cases hj : s = j
    · subst hj; simp
    · rw [if_neg hj, if_neg (fun h => hj h.2.symm)]
  · rw [if_neg hi]
    refine List.map_congr_left fun j _ => ?_
    rw [upd2, if_neg (fun h => hi h.1.symm)]
theorem tabOf_congr {n : Nat} {F G : Fn2} (h : ∀ v s, v < n → s < 12 → F v s = G v s) : tabOf n F = tabOf n G := by
  refine List.map_congr_left fun v hv => List.map_congr_left fun s hs => h v s (by simpa using hv) (by simpa using hs)
theorem tabOf_zero (n : Nat) : tabOf n (fun _ _ => 0) = List.replicate n (List.replicate 12 0) := by
  refine List.ext_getElem (by simp [tabOf]) fun i h1 h2 => ?_
  simp [tabOf]; rfl

/-! what the leaves may not have -/
def blk (F : Fn2) (v : Nat) (x : Int) (j : Nat) : Fn2 := fun u s => if u = v ∧ s < j ∧ x ≠ -1 ∧ x ≠ (s : Int) then -1 else F u s
theorem blk_zero (F : Fn2) (v : Nat) (x : Int) : blk F v x 0 = F := by
  funext u s; rw [blk, if_neg (by omega)]
theorem blk_take {F : Fn2} {v : Nat} {x : Int} {j : Nat} (h1 : x ≠ -1) (h2 : x ≠ (j : Int)) : blk F v x (j + 1) = upd2 (blk F v x j) v j (-1) := by
  funext u s
  simp only [blk, upd2]
  by_cases hu : u = v ∧ s = j
  · obtain ⟨rfl, rfl⟩ := hu
    rw [if_pos ⟨rfl, by omega, h1, h2⟩, if_pos ⟨rfl, rfl⟩]
  · rw [if_neg hu]
    by_cases hc : u = v ∧ s < j ∧ x ≠ -1 ∧ x ≠ (s : Int)
    · rw [if_pos hc, if_pos ⟨hc.1, by omega, hc.2.2⟩]
    · rw [if_neg hc, if_neg]
      rintro ⟨a, b, c⟩
      rcases Nat.lt_succ_iff_lt_or_eq.1 b with b | b
      · exact hc ⟨a, b, c⟩
      · exact hu ⟨a, b⟩
theorem blk_skip {F : Fn2} {v : Nat} {x : Int} {j : Nat} (h : ¬ (x ≠ -1 ∧ x ≠ (j : Int))) : blk F v x (j + 1) = blk F v x j := by
  funext u s
  simp only [blk]
  by_cases hc : u = v ∧ s < j ∧ x ≠ -1 ∧ x ≠ (s : Int)
  · rw [if_pos hc, if_pos ⟨hc.1, by omega, hc.2.2⟩]
  · rw [if_neg hc, if_neg]
    rintro ⟨a, b, c⟩
    rcases Nat.lt_succ_iff_lt_or_eq.1 b with b | b
    · exact hc ⟨a, b, c⟩
    · subst b; exact h c
def ini (l st : List Int) (ns : Nat) : Nat → Fn2
  | 0 => fun _ _ => 0
  | k + 1 => blk (ini l st ns k) (l.getD k 0).toNat (st.getD k 0) ns
theorem ini_bd (l st : List Int) (ns k v s : Nat) : -1 ≤ ini l st ns k v s ∧ ini l st ns k v s ≤ 0 := by
  induction k with
  | zero => simp [ini]
  | succ k ih =>
    simp only [ini, blk]
    split
    · omega
    · exact ih
theorem blk_bd {F : Fn2} {v : Nat} {x : Int} {j : Nat} {a b : Int} (h : ∀ u s, a ≤ F u s ∧ F u s ≤ b) (h1 : a ≤ -1) (h2 : -1 ≤ b) (u s : Nat) : a ≤ blk F v x j u s ∧ blk F v x j u s ≤ b := by
  rw [blk]; split
  · omega
  · exact h u s

/-! the costs of all nodes -/
def stepF (m : List (List Int)) (F : Fn2) (v a b : Nat) : Int := if cellAt m a b = -1 ∨ F v b = -1 then -1 else cellAt m a b + F v b
def underF (m : List (List Int)) (F : Fn2) (v a : Nat) : Int := (bestTo (stepF m F v a) m.length).1
def comb (a l : Int) : Int := if l < 0 ∨ a < 0 then -1 else a + l
def rnd (m : List (List Int)) (F : Fn2) (v up j : Nat) : Fn2 := fun u s => if u = up ∧ s < j then comb (F up s) (underF m F v s) else F u s
def parN (t : List Node) (v : Nat) : Nat := (parOf t v).toNat
def costF (t : List Node) (m : List (List Int)) (F : Fn2) : Nat → Fn2
  | 0 => F
  | k + 1 => rnd m (costF t m F k) (t.length - 1 - k) (parN t (t.length - 1 - k)) m.length

theorem bestTo_congr {c d : Nat → Int} {k : Nat} (h : ∀ s, s < k → c s = d s) : bestTo c k = bestTo d k := by
  induction k with
  | zero => rfl
  | succ k ih => rw [bestTo_succ, bestTo_succ, ih fun s hs => h s (by omega), h k (by omega)]
theorem bestTo_bd {c : Nat → Int} {B : Int} (hB : -1 ≤ B) (k : Nat) (h : ∀ s, s < k → -1 ≤ c s ∧ c s ≤ B) : -1 ≤ (bestTo c k).1 ∧ (bestTo c k).1 ≤ B := by
  induction k with
  | zero => exact ⟨by simp [bestTo], hB⟩
  | succ k ih =>
    rw [bestTo_succ]
    split
    · exact h k (by omega)
    · exact ih fun s hs => h s (by omega)
theorem rnd_zero (m : List (List Int)) (F : Fn2) (v up : Nat) : rnd m F v up 0 = F := by
  funext u s; rw [rnd, if_neg (by omega)]
theorem rnd_row {m : List (List Int)} {F : Fn2} {v up j : Nat} (h : v ≠ up) : rnd m F v up j v = F v := by
  funext s; rw [rnd, if_neg (fun e => h e.1)]
theorem under_congr {m : List (List Int)} {F G : Fn2} {v a : Nat} (h : F v = G v) : underF m F v a = underF m G v a := by
  rw [underF, underF]
  congr 1
  exact bestTo_congr fun s _ => by rw [stepF, stepF, h]
theorem rnd_succ {m : List (List Int)} {F : Fn2} {v up j : Nat} : rnd m F v up (j + 1) = upd2 (rnd m F v up j) up j (comb (F up j) (underF m F v j)) := by
  funext u s
  simp only [rnd, upd2]
  by_cases hu : u = up ∧ s = j
  · obtain ⟨rfl, rfl⟩ := hu
    rw [if_pos ⟨rfl, by omega⟩, if_pos ⟨rfl, rfl⟩]
  · rw [if_neg hu]
    by_cases hc : u = up ∧ s < j
    · rw [if_pos hc, if_pos ⟨hc.1, by omega⟩]
    · rw [if_neg hc, if_neg]
      rintro ⟨a, b⟩
      rcases Nat.lt_succ_iff_lt_or_eq.1 b with b | b
      · exact hc ⟨a, b⟩
      · exact hu ⟨a, b⟩
theorem rnd_at {m : List (List Int)} {F : Fn2} {v up j : Nat} : rnd m F v up j up j = F up j := by rw [rnd, if_neg (by omega)]

/-! bounds -/
def sumTo (f : Nat → Nat) : Nat → Nat
  | 0 => 0
  | n + 1 => sumTo f n + f n
theorem sumTo_le {f : Nat → Nat} {i n : Nat} (h : i < n) : f i ≤ sumTo f n := by
  induction n with
  | zero => omega
  | succ n ih =>
    rw [sumTo]
    rcases Nat.lt_succ_iff_lt_or_eq.1 h with h | h
    · have := ih h; omega
    · subst h; omega
theorem sumTo_upd {f : Nat → Nat} {i n x : Nat} : sumTo (fun j => if j = i then f i + x else f j) n = sumTo f n + if i < n then x else 0 := by
  induction n with
  | zero => rfl
  | succ n ih =>
    rw [sumTo, sumTo, ih]
    by_cases h : n = i
    · subst h
      rw [if_pos rfl, if_neg (by omega), if_pos (by omega)]; omega
    · rw [if_neg h]
      by_cases h2 : i < n
      · rw [if_pos h2, if_pos (by omega)]; omega
      · rw [if_neg h2, if_neg (by omega)]; omega
theorem sumTo_zero (n : Nat) : sumTo (fun _ => 0) n = 0 := by
  induction n with
  | zero => rfl
  | succ n ih => rw [sumTo, ih]
/-- so many times the greatest cost at most -/
def Cap (cnt : Nat → Nat) (F : Fn2) : Prop := ∀ v s, -1 ≤ F v s ∧ F v s ≤ (cnt v : Int) * 1073741824
theorem stepF_bd {m : List (List Int)} {F : Fn2} {cnt : Nat → Nat} (hm : Mat m) (h : Cap cnt F) (v a b : Nat) : -1 ≤ stepF m F v a b ∧ stepF m F v a b ≤ ((cnt v + 1 : Nat) : Int) * 1073741824 := by
  have h1 := hm.2.2.2 a b
  have h2 := h v b
  have h3 : ((cnt v + 1 : Nat) : Int) * 1073741824 = (cnt v : Int) * 1073741824 + 1073741824 := by omega
  rw [stepF]
  split
  · omega
  · omega
theorem under_bd {m : List (List Int)} {F : Fn2} {cnt : Nat → Nat} (hm : Mat m) (h : Cap cnt F) (v a : Nat) : -1 ≤ underF m F v a ∧ underF m F v a ≤ ((cnt v + 1 : Nat) : Int) * 1073741824 :=
  bestTo_bd (by omega) _ fun s _ => stepF_bd hm h v a s
def cntF (t : List Node) : Nat → Nat → Nat
  | 0 => fun _ => 0
  | k + 1 => fun u => if u = parN t (t.length - 1 - k) then cntF t k (parN t (t.length - 1 - k)) + (cntF t k (t.length - 1 - k) + 1) else cntF t k u
theorem rnd_cap {m : List (List Int)} {F : Fn2} {cnt : Nat → Nat} (hm : Mat m) (h : Cap cnt F) (v up j : Nat) : Cap (fun u => if u = up then cnt up + (cnt v + 1) else cnt u) (rnd m F v up j) := by
  intro u s
  have h1 := h up s
  have h2 := under_bd hm h v s
  have h3 := h u s
  simp only
  by_cases hu : u = up
  · subst hu
    rw [if_pos rfl]
    have h4 : ((cnt u + (cnt v + 1) : Nat) : Int) * 1073741824 = (cnt u : Int) * 1073741824 + ((cnt v + 1 : Nat) : Int) * 1073741824 := by omega
    rw [rnd]
    split
    · rw [comb]
      split
      · omega
      · omega
    · omega
  · rw [if_neg hu, rnd, if_neg (fun e => hu e.1)]
    exact h3
theorem cost_cap {t : List Node} {m : List (List Int)} {F : Fn2} (hm : Mat m) (hF : ∀ v s, -1 ≤ F v s ∧ F v s ≤ 0) (k : Nat) : Cap (cntF t k) (costF t m F k) := by
  induction k with
  | zero => intro v s; have := hF v s; simp only [costF, cntF]; omega
  | succ k ih => exact rnd_cap hm ih _ _ _
theorem cnt_sum {t : List Node} (hp : ∀ v, 0 < v → v < t.length → parN t v < v) : ∀ k, k + 1 ≤ t.length → sumTo (cntF t k) (t.length - k) = k ∧ ∀ v, cntF t k v ≤ k := by
  intro k
  induction k with
  | zero => intro _; exact ⟨sumTo_zero _, fun v => by simp [cntF]⟩
  | succ k ih =>
    intro hk
    obtain ⟨h1, h2⟩ := ih (by omega)
    have hp := hp (t.length - 1 - k) (by omega) (by omega)
    have e1 : t.length - k = (t.length - 1 - k) + 1 := by omega
    have e2 : t.length - (k + 1) = t.length - 1 - k := by omega
    have hs : sumTo (cntF t (k + 1)) (t.length - (k + 1)) = k + 1 := by
      have := sumTo_upd (f := cntF t k) (i := parN t (t.length - 1 - k)) (n := t.length - 1 - k) (x := cntF t k (t.length - 1 - k) + 1)
      rw [if_pos hp] at this
      rw [e2]
      rw [e1, sumTo] at h1
      show sumTo (fun u => if u = parN t (t.length - 1 - k) then cntF t k (parN t (t.length - 1 - k)) + (cntF t k (t.length - 1 - k) + 1) else cntF t k u) _ = _
      omega
    refine ⟨hs, fun v => ?_⟩
    by_cases hv : v = parN t (t.length - 1 - k)
    · have h3 := sumTo_le (f := cntF t (k + 1)) hp
      rw [e2] at hs
      rw [← hv] at h3
      omega
    · simp only [cntF]
      rw [if_neg hv]
      have := h2 v
      omega


theorem comb_rc (a x y : Int) : comb (comb a x) y = comb (comb a y) x := by
  have hc : ∀ a b : Int, comb a b < 0 ↔ (a < 0 ∨ b < 0) := fun a b => by rw [comb]; split <;> omega
  rw [comb, comb.eq_1 (comb a y) x]
  simp only [hc]
  by_cases h : a < 0 ∨ x < 0 ∨ y < 0
  · rw [if_pos (by omega), if_pos (by omega)]
  · rw [if_neg (by omega), if_neg (by omega), comb, comb, if_neg (by omega), if_neg (by omega)]
    omega

/-! the table is what the children's rows are together -/
abbrev finF (t : List Node) (m : List (List Int)) (I : Fn2) : Fn2 := costF t m I (t.length - 1)
theorem cost_keep {t : List Node} {m : List (List Int)} {I : Fn2} (hp : ∀ v, 0 < v → v < t.length → parN t v < v) {k u : Nat} (h : t.length - 1 - u ≤ k) (d : Nat) (hd : k + d ≤ t.length - 1) : costF t m I (k + d) u = costF t m I k u := by
  induction d with
  | zero => rfl
  | succ d ih =>
    have hp := hp (t.length - 1 - (k + d)) (by omega) (by omega)
    rw [← Nat.add_assoc, costF, ← ih (by omega)]
    funext s
    rw [rnd, if_neg]
    rintro ⟨e, _⟩
    omega
theorem foldl_same {α β : Type} {f g : α → β → α} (l : List β) (h : ∀ a b, b ∈ l → f a b = g a b) : ∀ a, l.foldl f a = l.foldl g a := by
  induction l with
  | nil => intro a; rfl
  | cons b r ih => intro a; rw [List.foldl_cons, List.foldl_cons, h a b (List.mem_cons_self ..), ih fun a c hc => h a c (List.mem_cons_of_mem _ hc)]
theorem fin_row {t : List Node} {m : List (List Int)} {I : Fn2} (hp : ∀ v, 0 < v → v < t.length → parN t v < v) {u k : Nat} (h : t.length - 1 - u ≤ k) (hk : k ≤ t.length - 1) : costF t m I k u = finF t m I u := by
  have := cost_keep (m := m) (I := I) hp h (t.length - 1 - k) (by omega)
  rw [← this, show k + (t.length - 1 - k) = t.length - 1 by omega]
theorem cost_fold {t : List Node} {m : List (List Int)} {I : Fn2} (hp : ∀ v, 0 < v → v < t.length → parN t v < v) (u s : Nat) (hs : s < m.length) : ∀ k, k ≤ t.length - 1 →
    costF t m I k u s = (List.range k).foldl (fun a k => if u = parN t (t.length - 1 - k) then comb a (underF m (finF t m I) (t.length - 1 - k) s) else a) (I u s) := by
  intro k
  induction k with
  | zero => intro _; rfl
  | succ k ih =>
    intro hk
    rw [List.range_succ, List.foldl_append, ← ih (by omega)]
    simp only [List.foldl_cons, List.foldl_nil, costF, rnd]
    by_cases h : u = parN t (t.length - 1 - k)
    · rw [if_pos ⟨h, hs⟩, if_pos h, ← h, under_congr (fin_row hp (u := t.length - 1 - k) (k := k) (by omega) (by omega))]
    · rw [if_neg (fun e => h e.1), if_neg h]
/-- the children's numbers, the smallest first -/
def kidsN (t : List Node) (u : Nat) : List Nat := (List.range t.length).filter fun w => decide (parOf t w = (u : Int))
theorem foldl_if {α β : Type} (p : β → Prop) [DecidablePred p] (f : α → β → α) (l : List β) : ∀ a, l.foldl (fun a k => if p k then f a k else a) a = (l.filter fun k => decide (p k)).foldl f a := by
  induction l with
  | nil => intro a; rfl
  | cons b r ih =>
    intro a
    rw [List.foldl_cons, ih]
    by_cases h : p b
    · rw [if_pos h, List.filter_cons_of_pos (by simpa using h), List.foldl_cons]
    · rw [if_neg h, List.filter_cons_of_neg (by simpa using h)]
theorem range_rev (n : Nat) : (List.range n).reverse = (List.range n).map fun k => n - 1 - k := by
  refine List.ext_getElem (by simp) fun i h1 h2 => ?_
  simp
theorem fin_kids {t : List Node} {m : List (List Int)} {I : Fn2} (ht : okTree t = true) (u s : Nat) (hs : s < m.length) :
    finF t m I u s = (kidsN t u).foldl (fun a w => comb a (underF m (finF t m I) w s)) (I u s) := by
  have hn := okTree_len ht
  have hpp : ∀ v, 0 < v → v < t.length → parN t v < v ∧ parOf t v = (parN t v : Nat) := fun v h0 hv => by
    have := okTree_par ht hv h0
    rw [parN]; omega
  have hroot := okTree_root ht
  rw [finF, cost_fold (fun v h0 hv => (hpp v h0 hv).1) u s hs _ (Nat.le_refl _)]
  have e1 : (List.range (t.length - 1)).foldl (fun a k => if u = parN t (t.length - 1 - k) then comb a (underF m (finF t m I) (t.length - 1 - k) s) else a) (I u s) =
      ((List.range t.length).map fun k => t.length - 1 - k).foldl (fun a w => if parOf t w = (u : Int) then comb a (underF m (finF t m I) w s) else a) (I u s) := by
    obtain ⟨n, hnn⟩ : ∃ n, t.length = n + 1 := ⟨t.length - 1, by omega⟩
    rw [List.foldl_map, hnn, List.range_succ, List.foldl_append]
    simp only [List.foldl_cons, List.foldl_nil, Nat.add_sub_cancel, Nat.sub_self, hroot]
    rw [if_neg (by omega)]
    refine foldl_same _ (fun a k hk => ?_) _
    have hk : k < n := by simpa using hk
    have := hpp (n - k) (by omega) (by omega)
    by_cases h : u = parN t (n - k)
    · rw [if_pos h, if_pos (by omega)]
    · rw [if_neg h, if_neg (by omega)]
  rw [e1, ← range_rev, foldl_if (fun w => parOf t w = (u : Int)) (fun a w => comb a (underF m (finF t m I) w s)), kidsN]
  exact List.Perm.foldl_eq' (f := fun a w => comb a (underF m (finF t m I) w s)) ((List.reverse_perm _).filter _) (fun x _ y _ z => comb_rc z _ _) _

end Go.Cp
end

section
set_option linter.unusedVariables false
set_option linter.unusedSimpArgs false
set_option maxHeartbeats 4000000
set_option maxRecDepth 10000
namespace Go.Cp
open Go Go.Proofs Go.Vx

theorem checkE_zero {t : List Node} {m : List (List Int)} {st : List Int} (h : checkE t m st = 0) : okTree t = true ∧ okM m = true ∧ st.length = (leavesOf t).length ∧ ∀ k, -1 ≤ st.getD k 0 ∧ (k < st.length → st.getD k 0 < m.length) := by
  rw [checkE] at h
  cases h1 : okTree t with
  | false => rw [h1] at h; simp at h
  | true =>
    rw [h1, cond_true] at h
    cases h2 : (okM m && decide (st.length = (leavesOf t).length)) with
    | false => rw [h2] at h; simp at h
    | true =>
      rw [h2, cond_true] at h
      cases h3 : st.all (okS m.length) with
      | false => rw [h3] at h; simp at h
      | true =>
        simp only [Bool.and_eq_true, decide_eq_true_eq] at h2
        refine ⟨rfl, h2.1, h2.2, fun k => ?_⟩
        by_cases hk : k < st.length
        · rw [List.all_eq_true] at h3
          have := h3 _ (List.getElem_mem hk)
          simp only [okS, Bool.and_eq_true, decide_eq_true_eq] at this
          rw [List.getD, List.getElem?_eq_getElem hk]
          exact ⟨this.1, fun _ => this.2⟩
        · rw [List.getD, List.getElem?_eq_none (by omega)]
          exact ⟨by decide, fun h => absurd h hk⟩
theorem leaf_at {t : List Node} {k : Nat} (hk : k < (leavesOf t).length) : ∃ v : Nat, (leavesOf t).getD k 0 = (v : Int) ∧ v < t.length := by
  have h : (leavesOf t).getD k 0 ∈ leavesOf t := by rw [List.getD, List.getElem?_eq_getElem hk]; exact List.getElem_mem hk
  rw [leavesOf, leavesTo, List.mem_map] at h
  obtain ⟨v, h1, h2⟩ := h
  rw [List.mem_filter, List.mem_range] at h1
  exact ⟨v, h2.symm, h1.1⟩
theorem set_row {r : List Int} {s : Nat} {x : Int} (h : s < r.length) : (rowE r).take (s * 1) ++ D.sc (.int .i64 x) :: (rowE r).drop (s * 1 + 1) = rowE (r.set s x) := by
  rw [Nat.mul_one, rowE, rowE, List.map_set, List.set_eq_take_append_cons_drop, if_pos (by simpa using h)]
theorem set_tab {n : Nat} {F : Fn2} {v s : Nat} {x : Int} (hv : v < n) (hs : s < 12) :
    ((tabOf n F).map rowE).set v (List.take (s * 1) (((tabOf n F).map rowE).getD v []) ++ D.sc (.int .i64 x) :: List.drop (s * 1 + 1) (((tabOf n F).map rowE).getD v [])) = (tabOf n (upd2 F v s x)).map rowE := by
  rw [getD_rowE _ v (by rw [tabOf_len]; exact hv), set_row (by rw [tabOf_row hv]; simpa using hs), ← List.map_set, tabOf_set hv hs]
theorem row_len {n : Nat} {F : Fn2} {v : Nat} (hv : v < n) : (((tabOf n F).map rowE).getD v []).length = 12 := by
  rw [getD_rowE _ v (by rw [tabOf_len]; exact hv), tabOf_row hv]; simp [rowE]

theorem drop_tab {n : Nat} {F : Fn2} {v s : Nat} (hv : v < n) (hs : s < 12) : (((tabOf n F).map rowE).getD v []).drop (s * 1) = .sc (.int .i64 (F v s)) :: (rowE ((tabOf n F).getD v [])).drop (s + 1) := by
  have h : s < ((tabOf n F).getD v []).length := by rw [tabOf_row hv]; simpa using hs
  rw [getD_rowE _ v (by rw [tabOf_len]; exact hv), drop_rowE h]
  have := tabOf_cell (F := F) hv hs
  rw [cellAt] at this
  rw [this]
theorem under_tab {m : List (List Int)} {F : Fn2} {n v up s j : Nat} (hm : m.length ≤ 12) (hv : v < n) (h : v ≠ up) : bestTo (stepI m (tabOf n (rnd m F v up j)) v s) m.length = bestTo (stepF m F v s) m.length :=
  bestTo_congr fun b hb => by rw [stepI, stepF, tabOf_cell hv (by omega), rnd_row h]

theorem solved_bad (t : List Node) (m : List (List Int)) (st : List Int) (hs : Small t) (hc : checkE t m st ≠ 0) :
    Ok Try.prog E 70 [.c (nodes t), .c (rowsS m), .c (nums st)] (.tp [.ag [.sl [], .sl [], .sl []], zv (checkE t m st)]) := by
  refine ok_of_vcC (L := [(4, [(0, 4), (1, 4), (0, 6), (1, 6), (2, 6), (3, 6), (4, 6), (5, 6)])]) (rs := [.cell 6 72, .tmp 7]) envOK mixed Try.func70 rfl (by kernel_rfl) rfl (by kernel_rfl) rfl fun hl => ?_
  simp only [Try.f70, nums, rowsS, nodes, zv, bv, sv, nv, VZ, BEq.rfl, seval, -Int.reduceNatCast', kAgg, scD, List.all_cons, List.all_nil]
  refine CallX.mk (Check_ok t m st hs) rfl ?_
  have h1 : (checkE t m st != 0) = true := by simpa using hc
  simp only [h1, nums, rowsS, nodes, zv, bv, sv, nv, VZ, BEq.rfl, seval, -Int.reduceNatCast', kAgg, scD, List.all_cons, List.all_nil]

/-- the table of a problem -/
abbrev iniF (t : List Node) (m : List (List Int)) (st : List Int) : Fn2 := ini (leavesOf t) st m.length (leavesOf t).length
abbrev solF (t : List Node) (m : List (List Int)) (st : List Int) : Fn2 := finF t m (iniF t m st)

theorem solved_ok (t : List Node) (m : List (List Int)) (st : List Int) (hs : Small t) (hc : checkE t m st = 0) :
    Ok Try.prog E 70 [.c (nodes t), .c (rowsS m), .c (nums st)] (.tp [.ag [nodes t, rowsS m, costsD (tabOf t.length (solF t m st))], zv 0]) := by
  refine ok_of_vcC (L := [(4, [(0, 4), (1, 4), (0, 6), (1, 6), (2, 6), (3, 6), (4, 6), (5, 6)])]) (rs := [.cell 6 72, .tmp 7]) envOK mixed Try.func70 rfl (by kernel_rfl) rfl (by kernel_rfl) rfl fun hl => ?_
  simp only [Try.f70, solF, iniF, finF, nums, rowsS, nodes, zv, bv, sv, nv, VZ, BEq.rfl, seval, -Int.reduceNatCast', kAgg, scD, List.all_cons, List.all_nil]
  refine CallX.mk (Check_ok t m st hs) rfl ?_
  simp only [hc, nums, rowsS, nodes, zv, bv, sv, nv, VZ, BEq.rfl, seval, -Int.reduceNatCast', kAgg, scD, List.all_cons, List.all_nil]
  obtain ⟨ht, hm, hsl, hst⟩ := checkE_zero hc
  have hmat := okM_mat hm
  obtain ⟨hn0, hn63⟩ := okTree_len ht
  have hm12 := hmat.2.1
  refine ⟨⟨by omega, by omega⟩, ?_⟩
  refine CallX.mk (Leaves_ok t hs) rfl ?_
  simp only [leavesR_true ht, ht, errOf_true, nums, rowsS, nodes, zv, bv, sv, nv, VZ, BEq.rfl, seval, -Int.reduceNatCast', kAgg, scD, List.all_cons, List.all_nil]
  have hll := leaves_len t
  have hz : List.replicate t.length (List.replicate 12 (D.sc (.int .i64 0))) = (tabOf t.length (fun _ _ => 0)).map rowE := by
    rw [tabOf_zero, List.map_replicate]; rfl
  refine LoopVC.mk (Y := Nat) (fun k => k ≤ (leavesOf t).length) (fun k => ⟨[(2, .c (nums st)), (3, .bp 3 0), (4, .bp 4 0), (6, .bp 6 0), (9, .bp 9 0), (39, .c (nums (leavesOf t))), (40, nv (leavesOf t).length), (41, nv k)],
      [(3, .cells [.c (nodes t)]), (4, .cells [.c (rowsS m)]), (6, .cells [.c (.sc (.slice none 0 0)), .c (.sc (.slice none 0 0)), .c (.sc (.slice none 0 0))]), (9, .cells [.c (nodes t), .c (rowsS m), .osl 32 0]), (32, .arr 87 0 ((tabOf t.length (ini (leavesOf t) st m.length k)).map rowE))]⟩)
      (fun k => (leavesOf t).length - k) ⟨0, Enter.mk [] [] [] ?_, by omega⟩ ?_
  · simp only [ini, ← hz, List.replicate, nums, rowsS, nodes, zv, bv, sv, nv, VZ, BEq.rfl, seval, -Int.reduceNatCast', kAgg, scD, List.all_cons, List.all_nil]
    try rfl
  intro k hk
  simp only [lt_nat, nums, rowsS, nodes, zv, bv, sv, nv, VZ, BEq.rfl, seval, -Int.reduceNatCast', kAgg, scD, List.all_cons, List.all_nil]
  refine guardB.mk (fun h => ?_) (fun h => ?_)
  · have hk' : k < (leavesOf t).length := by simpa using h
    clear h
    obtain ⟨v, hv, hvn⟩ := leaf_at hk'
    simp only [getD_num (leavesOf t) k hk', hv, num_def, nums, rowsS, nodes, zv, bv, sv, nv, VZ, BEq.rfl, seval, -Int.reduceNatCast', kAgg, scD, List.all_cons, List.all_nil]
    refine ⟨⟨Int.natCast_nonneg k, hk'⟩, ?_⟩
    have hini : ini (leavesOf t) st m.length (k + 1) = blk (ini (leavesOf t) st m.length k) v (st.getD k 0) m.length := by rw [ini, hv]; rfl
    have hsk := hst k
    obtain ⟨F, hF⟩ : ∃ F, ini (leavesOf t) st m.length k = F := ⟨_, rfl⟩
    obtain ⟨x, hx⟩ : ∃ x, st.getD k 0 = x := ⟨_, rfl⟩
    rw [hF, hx] at hini
    rw [hx] at hsk
    simp only [hF]
    refine LoopVC.mk (Y := Nat) (fun j => j ≤ m.length) (fun j => ⟨[(2, .c (nums st)), (3, .bp 3 0), (4, .bp 4 0), (6, .bp 6 0), (9, .bp 9 0), (39, .c (nums (leavesOf t))), (40, nv (leavesOf t).length), (41, nv k), (12, nv k), (13, nv v), (47, nv m.length), (48, nv j)],
        [(3, .cells [.c (nodes t)]), (4, .cells [.c (rowsS m)]), (6, .cells [.c (.sc (.slice none 0 0)), .c (.sc (.slice none 0 0)), .c (.sc (.slice none 0 0))]), (9, .cells [.c (nodes t), .c (rowsS m), .osl 32 0]), (32, .arr 87 0 ((tabOf t.length (blk F v x j)).map rowE))]⟩)
        (fun j => m.length - j) ⟨0, Enter.mk [] [] [] ?_, by omega⟩ ?_
    · simp only [blk_zero, nums, rowsS, nodes, zv, bv, sv, nv, VZ, BEq.rfl, seval, -Int.reduceNatCast', kAgg, scD, List.all_cons, List.all_nil]
      try rfl
    intro j hj
    simp only [lt_nat, nums, rowsS, nodes, zv, bv, sv, nv, VZ, BEq.rfl, seval, -Int.reduceNatCast', kAgg, scD, List.all_cons, List.all_nil]
    refine guardB.mk (fun h => ?_) (fun h => ?_)
    · have hj' : j < m.length := by simpa using h
      clear h
      have hbt : x ≠ -1 → x ≠ (j : Int) → blk F v x (j + 1) = upd2 (blk F v x j) v j (-1) := blk_take
      have hbs : ¬ (x ≠ -1 ∧ x ≠ (j : Int)) → blk F v x (j + 1) = blk F v x j := blk_skip
      simp only [getD_num st k (by omega), hx, num_def, bne, int_beq, nums, rowsS, nodes, zv, bv, sv, nv, VZ, BEq.rfl, seval, -Int.reduceNatCast', kAgg, scD, List.all_cons, List.all_nil]
      refine ⟨⟨Int.natCast_nonneg k, by omega⟩, ?_⟩
      refine guardB.mk (fun h => ?_) (fun h => ?_) <;> simp only [h, getD_num st k (by omega), hx, num_def, bne, int_beq, nums, rowsS, nodes, zv, bv, sv, nv, VZ, BEq.rfl, seval, -Int.reduceNatCast', kAgg, scD, List.all_cons, List.all_nil]
      · have h1 : x ≠ -1 := by simpa using h
        refine ⟨⟨Int.natCast_nonneg k, by omega⟩, ?_⟩
        refine guardB.mk (fun h => ?_) (fun h => ?_) <;> simp only [h, getD_num st k (by omega), hx, num_def, bne, int_beq, nums, rowsS, nodes, zv, bv, sv, nv, VZ, BEq.rfl, seval, -Int.reduceNatCast', kAgg, scD, List.all_cons, List.all_nil]
        · have h2 : x ≠ (j : Int) := by simpa using h
          have hb := hbt h1 h2
          have hs12 : j < 12 := by omega
          simp only [set_tab hvn hs12, ← hb, tabOf_len, row_len hvn, wrap_nat (k := j) (by omega), nums, rowsS, nodes, zv, bv, sv, nv, VZ, BEq.rfl, seval, -Int.reduceNatCast', kAgg, scD, List.all_cons, List.all_nil]
          refine ⟨Int.natCast_nonneg v, by omega, ⟨Int.natCast_nonneg j, by omega⟩, ⟨by omega, by omega⟩, j + 1, Enter.mk [] [] [] ?_, by omega, by show m.length - (j + 1) < m.length - j; omega⟩
          simp only [nums, rowsS, nodes, zv, bv, sv, nv, VZ, BEq.rfl, seval, -Int.reduceNatCast', kAgg, scD, List.all_cons, List.all_nil]
        · have h2 : x = (j : Int) := by simpa using h
          have hb := hbs (fun h => h.2 h2)
          simp only [wrap_nat (k := j) (by omega), nums, rowsS, nodes, zv, bv, sv, nv, VZ, BEq.rfl, seval, -Int.reduceNatCast', kAgg, scD, List.all_cons, List.all_nil]
          refine ⟨j + 1, Enter.mk [] [] [] ?_, by omega, by show m.length - (j + 1) < m.length - j; omega⟩
          simp only [hb, nums, rowsS, nodes, zv, bv, sv, nv, VZ, BEq.rfl, seval, -Int.reduceNatCast', kAgg, scD, List.all_cons, List.all_nil]
      · have h1 : x = -1 := by simpa using h
        have hb := hbs (fun h => h.1 h1)
        simp only [wrap_nat (k := j) (by omega), nums, rowsS, nodes, zv, bv, sv, nv, VZ, BEq.rfl, seval, -Int.reduceNatCast', kAgg, scD, List.all_cons, List.all_nil]
        refine ⟨j + 1, Enter.mk [] [] [] ?_, by omega, by show m.length - (j + 1) < m.length - j; omega⟩
        simp only [hb, nums, rowsS, nodes, zv, bv, sv, nv, VZ, BEq.rfl, seval, -Int.reduceNatCast', kAgg, scD, List.all_cons, List.all_nil]
    · have hj' : j = m.length := by
        have : ¬ j < m.length := by simpa using h
        omega
      subst hj'
      simp only [wrap_nat (k := k) (by omega), nums, rowsS, nodes, zv, bv, sv, nv, VZ, BEq.rfl, seval, -Int.reduceNatCast', kAgg, scD, List.all_cons, List.all_nil]
      refine ⟨k + 1, Enter.mk [] [] [] ?_, by omega, by show (leavesOf t).length - (k + 1) < (leavesOf t).length - k; omega⟩
      simp only [hini, nums, rowsS, nodes, zv, bv, sv, nv, VZ, BEq.rfl, seval, -Int.reduceNatCast', kAgg, scD, List.all_cons, List.all_nil]
  · have hk' : k = (leavesOf t).length := by
      have : ¬ k < (leavesOf t).length := by simpa using h
      omega
    subst hk'
    simp only [nums, rowsS, nodes, zv, bv, sv, nv, VZ, BEq.rfl, seval, -Int.reduceNatCast', kAgg, scD, List.all_cons, List.all_nil]
    have hpar : ∀ v, 0 < v → v < t.length → parN t v < v ∧ parOf t v = (parN t v : Nat) := fun v h0 hv => by
      have := okTree_par ht hv h0
      rw [parN]; omega
    have hpn : ∀ v, 0 < v → v < t.length → parN t v < v := fun v h0 hv => (hpar v h0 hv).1
    refine CallX.mut (CallMVC.mk [] [(2001, 73)] (backwards_ok t) ?_ ?_)
    · simp only [nums, rowsS, nodes, zv, bv, sv, nv, VZ, BEq.rfl, seval, -Int.reduceNatCast', kAgg, scD, List.all_cons, List.all_nil]
    obtain ⟨I, hI⟩ : ∃ I, ini (leavesOf t) st m.length (leavesOf t).length = I := ⟨_, rfl⟩
    have hIb : ∀ v s, -1 ≤ I v s ∧ I v s ≤ 0 := fun v s => by rw [← hI]; exact ini_bd _ _ _ _ _ _
    simp only [hI, nums, rowsS, nodes, zv, bv, sv, nv, VZ, BEq.rfl, seval, -Int.reduceNatCast', kAgg, scD, List.all_cons, List.all_nil]
    refine RangeVC.mk (Y := Nat) [(2001, 73)] [] [] (back_seq t hn63) (fun k y => y = k ∧ k + 1 ≤ t.length) (fun k => ⟨[(3, .bp 3 0), (4, .bp 4 0), (6, .bp 6 0), (9, .bp 9 0)],
      [(3, .cells [.c (nodes t)]), (4, .cells [.c (rowsS m)]), (6, .cells [.c (.sc (.slice none 0 0)), .c (.sc (.slice none 0 0)), .c (.sc (.slice none 0 0))]), (9, .cells [.c (nodes t), .c (rowsS m), .osl 32 0]), (32, .arr 87 0 ((tabOf t.length (costF t m I k)).map rowE))]⟩)
      rfl ?_ ?_ ⟨0, ?_, rfl, by omega⟩ ?_ ?_
    · simp only [nums, rowsS, nodes, zv, bv, sv, nv, VZ, BEq.rfl, seval, -Int.reduceNatCast', kAgg, scD, List.all_cons, List.all_nil]
    · intro e he
      simp only [backL, List.mem_map] at he
      obtain ⟨i, _, rfl⟩ := he
      try rfl
    · simp only [costF, nums, rowsS, nodes, zv, bv, sv, nv, VZ, BEq.rfl, seval, -Int.reduceNatCast', kAgg, scD, List.all_cons, List.all_nil]
    · rintro k e y he ⟨rfl, hk⟩
      rw [backL_get (by omega)] at he
      injection he with he
      subst he
      obtain ⟨v, hv⟩ : ∃ v, v = t.length - 1 - y := ⟨_, rfl⟩
      have hvi : (t.length : Int) - 1 - (y : Int) = (v : Int) := by omega
      have hvn : v < t.length := by omega
      have e0 : ((v : Int) == 0) = decide (v = 0) := by rw [int_beq]; congr 1; exact propext ⟨fun h => by omega, fun h => by omega⟩
      simp only [hvi, e0, nums, rowsS, nodes, zv, bv, sv, nv, VZ, BEq.rfl, seval, -Int.reduceNatCast', kAgg, scD, List.all_cons, List.all_nil]
      refine guardB.mk (fun h => ?_) (fun h => ?_) <;> simp only [h, nums, rowsS, nodes, zv, bv, sv, nv, VZ, BEq.rfl, seval, -Int.reduceNatCast', kAgg, scD, List.all_cons, List.all_nil]
      · have h : v = 0 := by simpa using h
        have hy : t.length - 1 = y := by omega
        simp only [hy, nums, rowsS, nodes, zv, bv, sv, nv, VZ, BEq.rfl, seval, -Int.reduceNatCast', kAgg, scD, List.all_cons, List.all_nil]
      have hv0 : 0 < v := by have : v ≠ 0 := by simpa using h
                             omega
      clear h
      obtain ⟨hup, hupe⟩ := hpar v hv0 hvn
      have hcf : costF t m I (y + 1) = rnd m (costF t m I y) v (parN t v) m.length := by rw [costF, ← hv]
      have hcap := cost_cap (t := t) hmat hIb y
      have hcnt := cnt_sum hpn y (by omega)
      have hcnt' := (cnt_sum hpn (y + 1) (by omega)).2
      have hcn : cntF t (y + 1) = fun u => if u = parN t v then cntF t y (parN t v) + (cntF t y v + 1) else cntF t y u := by rw [cntF, ← hv]
      rw [hcn] at hcnt'
      have hcv := hcnt.2
      obtain ⟨F, hF⟩ : ∃ F, costF t m I y = F := ⟨_, rfl⟩
      rw [hF] at hcap hcf
      obtain ⟨up, hupn⟩ : ∃ up, parN t v = up := ⟨_, rfl⟩
      rw [hupn] at hup hupe hcf hcnt'
      have hGb : ∀ j u s, -1 ≤ rnd m F v up j u s ∧ rnd m F v up j u s ≤ 63 * 1073741824 := fun j u s => by
        have h1 := rnd_cap hmat hcap v up j u s
        have h2 := hcnt' u
        simp only at h1 h2
        omega
      have hpx : (t.getD v Node.zero).parent = (up : Int) := hupe
      simp only [hF, getD_node t v hvn, node_def, hpx, nums, rowsS, nodes, zv, bv, sv, nv, VZ, BEq.rfl, seval, -Int.reduceNatCast', kAgg, scD, List.all_cons, List.all_nil]
      refine ⟨⟨Int.natCast_nonneg v, hvn⟩, ?_⟩
      have hne : v ≠ up := by omega
      refine LoopVC.mk (Y := Nat) (fun j => j ≤ m.length) (fun j => ⟨[(3, .bp 3 0), (4, .bp 4 0), (6, .bp 6 0), (9, .bp 9 0), (15, nv v), (16, nv up), (83, nv m.length), (84, nv j)],
        [(3, .cells [.c (nodes t)]), (4, .cells [.c (rowsS m)]), (6, .cells [.c (.sc (.slice none 0 0)), .c (.sc (.slice none 0 0)), .c (.sc (.slice none 0 0))]), (9, .cells [.c (nodes t), .c (rowsS m), .osl 32 0]), (32, .arr 87 0 ((tabOf t.length (rnd m F v up j)).map rowE))]⟩)
        (fun j => m.length - j) ⟨0, Enter.mk [] [] [] ?_, by omega⟩ ?_
      · simp only [rnd_zero, nums, rowsS, nodes, zv, bv, sv, nv, VZ, BEq.rfl, seval, -Int.reduceNatCast', kAgg, scD, List.all_cons, List.all_nil]
        try rfl
      intro j hj
      simp only [lt_nat, nums, rowsS, nodes, zv, bv, sv, nv, VZ, BEq.rfl, seval, -Int.reduceNatCast', kAgg, scD, List.all_cons, List.all_nil]
      refine guardB.mk (fun h => ?_) (fun h => ?_)
      · have hj' : j < m.length := by simpa using h
        clear h
        have hj12 : j < 12 := by omega
        have hupn' : up < t.length := by omega
        have hTab : Tab t.length (tabOf t.length (rnd m F v up j)) := tabOf_tab fun u s _ _ => by have := hGb j u s; omega
        have hlst := under_tab (F := F) (j := j) (s := j) hm12 hvn hne
        have hat : rnd m F v up j up j = F up j := rnd_at
        have hsu := rnd_succ (m := m) (F := F) (v := v) (up := up) (j := j)
        have hcb := hGb (j + 1) up j
        rw [hsu, upd2, if_pos ⟨rfl, rfl⟩] at hcb
        simp only [nums, rowsS, nodes, zv, bv, sv, nv, VZ, BEq.rfl, seval, -Int.reduceNatCast', kAgg, scD, List.all_cons, List.all_nil]
        refine CallX.mk (least_ok t m (tabOf t.length (rnd m F v up j)) v j t.length hmat hTab hvn hj') rfl ?_
        have hx1 : (bestTo (stepI m (tabOf t.length (rnd m F v up j)) v j) m.length).1 = underF m F v j := by rw [hlst]; rfl
        have hxb := (under_bd hmat hcap v j).1
        obtain ⟨x, hx⟩ : ∃ x, underF m F v j = x := ⟨_, rfl⟩
        rw [hx] at hx1 hsu hcb hxb
        have hw := wrap_nat (k := j) (by omega)
        simp only [hx1, hat, int_beq, tabOf_len, row_len hupn', drop_tab hupn' hj12, nums, rowsS, nodes, zv, bv, sv, nv, VZ, BEq.rfl, seval, -Int.reduceNatCast', kAgg, scD, List.all_cons, List.all_nil]
        refine guardB.mk (fun h => ?_) (fun h => ?_) <;> simp only [h, hat, int_beq, tabOf_len, row_len hupn', drop_tab hupn' hj12, nums, rowsS, nodes, zv, bv, sv, nv, VZ, BEq.rfl, seval, -Int.reduceNatCast', kAgg, scD, List.all_cons, List.all_nil]
        · have h1 : x = -1 := by simpa using h
          have hc : (-1 : Int) = comb (F up j) x := by rw [comb, if_pos (by exact .inl (by omega))]
          rw [← hc] at hsu
          simp only [hx1, hat, int_beq, set_tab hupn' hj12, drop_tab hupn' hj12, ← hsu, tabOf_len, row_len hupn', hw, nums, rowsS, nodes, zv, bv, sv, nv, VZ, BEq.rfl, seval, -Int.reduceNatCast', kAgg, scD, List.all_cons, List.all_nil]
          refine ⟨Int.natCast_nonneg up, by omega, ⟨Int.natCast_nonneg j, by omega⟩, ⟨by omega, by omega⟩, j + 1, Enter.mk [] [] [] ?_, by omega, by show m.length - (j + 1) < m.length - j; omega⟩
          simp only [nums, rowsS, nodes, zv, bv, sv, nv, VZ, BEq.rfl, seval, -Int.reduceNatCast', kAgg, scD, List.all_cons, List.all_nil]
        have h1 : x ≠ -1 := by simpa using h
        clear h
        refine ⟨Int.natCast_nonneg up, by omega, ⟨Int.natCast_nonneg j, by omega⟩, by omega, ?_⟩
        refine guardB.mk (fun h => ?_) (fun h => ?_) <;> simp only [h, nums, rowsS, nodes, zv, bv, sv, nv, VZ, BEq.rfl, seval, -Int.reduceNatCast', kAgg, scD, List.all_cons, List.all_nil]
        · have h2 : F up j = -1 := by simpa using h
          have hc : (-1 : Int) = comb (F up j) x := by rw [comb, if_pos (by exact .inr (by omega))]
          rw [← hc] at hsu
          simp only [hx1, hat, int_beq, set_tab hupn' hj12, drop_tab hupn' hj12, ← hsu, tabOf_len, row_len hupn', hw, nums, rowsS, nodes, zv, bv, sv, nv, VZ, BEq.rfl, seval, -Int.reduceNatCast', kAgg, scD, List.all_cons, List.all_nil]
          refine ⟨Int.natCast_nonneg up, by omega, ⟨Int.natCast_nonneg j, by omega⟩, ⟨by omega, by omega⟩, j + 1, Enter.mk [] [] [] ?_, by omega, by show m.length - (j + 1) < m.length - j; omega⟩
          simp only [nums, rowsS, nodes, zv, bv, sv, nv, VZ, BEq.rfl, seval, -Int.reduceNatCast', kAgg, scD, List.all_cons, List.all_nil]
        have h2 : F up j ≠ -1 := by simpa using h
        clear h
        have hc : F up j + x = comb (F up j) x := by
          rw [comb, if_neg]
          have h3 := (hcap up j).1
          omega
        rw [← hc] at hsu hcb
        have hwc : IntKind.i64.wrap (F up j + x) = F up j + x := wrap_in (by omega) (by omega)
        simp only [hwc, hx1, hat, int_beq, set_tab hupn' hj12, drop_tab hupn' hj12, ← hsu, tabOf_len, row_len hupn', hw, nums, rowsS, nodes, zv, bv, sv, nv, VZ, BEq.rfl, seval, -Int.reduceNatCast', kAgg, scD, List.all_cons, List.all_nil]
        refine ⟨Int.natCast_nonneg up, by omega, ⟨Int.natCast_nonneg j, by omega⟩, by omega, Int.natCast_nonneg up, by omega, ⟨Int.natCast_nonneg j, by omega⟩, ⟨by omega, by omega⟩, j + 1, Enter.mk [] [] [] ?_, by omega, by show m.length - (j + 1) < m.length - j; omega⟩
        simp only [nums, rowsS, nodes, zv, bv, sv, nv, VZ, BEq.rfl, seval, -Int.reduceNatCast', kAgg, scD, List.all_cons, List.all_nil]
      · have hj' : j = m.length := by
          have : ¬ j < m.length := by simpa using h
          omega
        subst hj'
        simp only [nums, rowsS, nodes, zv, bv, sv, nv, VZ, BEq.rfl, seval, -Int.reduceNatCast', kAgg, scD, List.all_cons, List.all_nil]
        refine ⟨y + 1, Enter.mk [] [] [] ?_, rfl, by omega⟩
        simp only [hcf, nums, rowsS, nodes, zv, bv, sv, nv, VZ, BEq.rfl, seval, -Int.reduceNatCast', kAgg, scD, List.all_cons, List.all_nil]
    · rintro y ⟨rfl, hk⟩
      rw [backL_len] at hk
      omega

end Go.Cp
end
