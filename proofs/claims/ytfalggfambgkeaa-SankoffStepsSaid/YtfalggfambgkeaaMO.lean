/-
  Sankoff: changes that all cost 1 (plain). Conditions: none.
  Sankoff: slices.IsSorted, Index, Contains. Conditions: none.
-/
import Derived.Test.YtfalggfambgkeaaML
import Derived.Test.YtfalggfambgkeaaMN

section
set_option linter.unusedVariables false
set_option linter.unusedSimpArgs false
set_option maxHeartbeats 4000000
set_option maxRecDepth 10000
namespace Go.Cp
open Go Go.Proofs Go.Vx

def stepR (n a : Nat) : List Int := (List.range n).map fun b => if a = b then 0 else 1
def stepT (n i : Nat) : List (List Int) := (List.range i).map (stepR n)
theorem stepR_len (n a : Nat) : (stepR n a).length = n := by simp [stepR]
theorem stepT_len (n i : Nat) : (stepT n i).length = i := by simp [stepT]
theorem stepT_succ (n i : Nat) : stepT n (i + 1) = stepT n i ++ [stepR n i] := by simp [stepT, List.range_succ]
theorem stepR_set {n i : Nat} (h : i < n) : (List.replicate n (1 : Int)).set i 0 = stepR n i := by
  refine List.ext_getElem (by simp [stepR]) fun j h1 h2 => ?_
  simp [stepR, List.getElem_set]
theorem stepT_cell {n a b : Nat} (ha : a < n) (hb : b < n) : cellAt (stepT n n) a b = if a = b then 0 else 1 := by
  simp [cellAt, stepT, stepR, List.getD, ha, hb]
theorem stepT_ok {n : Nat} (h0 : 0 < n) (h1 : n ≤ 12) : okM (stepT n n) = true := by
  simp only [okM, Bool.and_eq_true, decide_eq_true_eq, List.all_eq_true, stepT_len]
  refine ⟨h0, h1, fun r hr => ?_⟩
  obtain ⟨a, _, rfl⟩ := List.mem_map.1 hr
  simp only [okRow, Bool.and_eq_true, decide_eq_true_eq, List.all_eq_true, stepR_len]
  refine ⟨trivial, fun x hx => ?_⟩
  obtain ⟨b, _, rfl⟩ := List.mem_map.1 hx
  split <;> rfl

section
variable {t : List Node} {n : Nat} {A : List Int}
def Bd (n : Nat) (t : List Node) (A : List Int) : Prop := ∀ v, v < t.length → 0 ≤ A.getD v 0 ∧ A.getD v 0 < n
theorem x_step (hb : Bd n t A) {v : Nat} (hv : v < t.length) (hp : parN t v < t.length) : xAt t (stepT n n) A v = if A.getD v 0 = A.getD (parN t v) 0 then 0 else 1 := by
  have h1 := hb v hv
  have h2 := hb _ hp
  rw [xAt, stepT_cell (by omega) (by omega)]
  by_cases h : A.getD v 0 = A.getD (parN t v) 0
  · rw [if_pos h, if_pos (by rw [h])]
  · rw [if_neg h, if_neg (by omega)]
theorem par_lt (ht : okTree t = true) : ∀ v, 0 < v → v < t.length → parN t v < v ∧ parOf t v = (parN t v : Nat) := fun v h0 hv => by
  have := okTree_par ht hv h0
  rw [parN]; omega
theorem cost_ev (ht : okTree t = true) (hb : Bd n t A) : ∀ k, k + 1 ≤ t.length → costTo t (stepT n n) A k = ((evTo t A (k + 1)).length : Int)
  | 0, _ => by
    rw [evTo_succ, if_neg (by omega)]; rfl
  | k + 1, hk => by
    have hp := (par_lt ht (k + 1) (by omega) (by omega)).1
    rw [costTo, cost_ev ht hb k (by omega), evTo_succ t A (k + 1), x_step hb (by omega) (by omega)]
    by_cases h : A.getD (k + 1) 0 = A.getD (parN t (k + 1)) 0
    · rw [if_pos h, if_neg (fun e => e.2 h)]; simp
    · rw [if_neg h, if_pos ⟨by omega, h⟩]; simp
theorem can_step (ht : okTree t = true) (hb : Bd n t A) : canTo t (stepT n n) A (t.length - 1) = true := by
  rw [canTo, List.all_eq_true]
  intro j hj
  have hj : j < t.length - 1 := by simpa using hj
  have hp := (par_lt ht (j + 1) (by omega) (by omega)).1
  rw [decide_eq_true_eq, x_step hb (by omega) (by omega)]
  split <;> omega
theorem steps_cost (ht : okTree t = true) (h0 : 0 < n) (h12 : n ≤ 12) (hl : A.length = t.length) (hb : Bd n t A) :
    errV t (stepT n n) A = 0 ∧ errC t A false = 0 ∧ costV t (stepT n n) A = ((evTo t A t.length).length : Int) ∧ eventsV t A = evTo t A t.length := by
  have hn := (okTree_len ht).1
  have h1 : errV t (stepT n n) A = 0 := by
    rw [errV, if_pos (check_zeroA ht (stepT_ok h0 h12) hl (by rw [stepT_len]; exact hb)), can_step ht hb]; rfl
  have h2 : errC t A false = 0 := by rw [errC, ht, decide_eq_true hl]; rfl
  refine ⟨h1, h2, ?_, by rw [eventsV, if_pos h2]⟩
  rw [costV, if_pos h1, cost_ev ht hb _ (by omega), show t.length - 1 + 1 = t.length by omega]
def sortedB (xs : List Int) : Bool := (List.range (xs.length - 1)).all fun i => decide (xs.getD i 0 ≤ xs.getD (i + 1) 0)
theorem ev_sorted (k : Nat) : sortedB (evTo t A k) = true := by
  have hp : (evTo t A k).Pairwise (· ≤ ·) := by
    rw [evTo]
    refine List.Pairwise.map _ (fun a b h => ?_) (List.Pairwise.filter _ List.pairwise_lt_range)
    exact Int.ofNat_le.2 (Nat.le_of_lt h)
  rw [sortedB, List.all_eq_true]
  intro i hi
  have hi : i < (evTo t A k).length - 1 := by simpa using hi
  rw [decide_eq_true_eq, getD_of 0 _ i (by omega), getD_of 0 _ (i + 1) (by omega)]
  exact List.pairwise_iff_getElem.1 hp i (i + 1) (by omega) (by omega) (by omega)
theorem ev_mem {k v : Nat} : ((v : Int) ∈ evTo t A k) ↔ v < k ∧ 0 < v ∧ A.getD v 0 ≠ A.getD (parN t v) 0 := by
  rw [evTo, List.mem_map]
  constructor
  · rintro ⟨u, h1, h2⟩
    rw [List.mem_filter, List.mem_range, decide_eq_true_eq] at h1
    have : u = v := by omega
    subst this
    exact h1
  · intro h
    exact ⟨v, by rw [List.mem_filter, List.mem_range, decide_eq_true_eq]; exact h, rfl⟩
end

/-! ### at most so many -/
def cntB (p : Nat → Bool) (k : Nat) : Nat := ((List.range k).filter p).length
theorem cntB_succ (p : Nat → Bool) (k : Nat) : cntB p (k + 1) = cntB p k + if p k then 1 else 0 := by
  rw [cntB, List.range_succ, List.filter_append, List.length_append]
  cases h : p k <;> simp [cntB, h]
theorem cntB_le {p q : Nat → Bool} {k : Nat} (h : ∀ j, j < k → p j = true → q j = true) : cntB p k ≤ cntB q k := by
  induction k with
  | zero => exact Nat.le_refl _
  | succ k ih =>
    rw [cntB_succ, cntB_succ]
    have := ih fun j hj => h j (by omega)
    have h2 := h k (by omega)
    cases hp : p k
    · simp; omega
    · rw [h2 hp]; simp; omega
theorem cntB_or {p q : Nat → Bool} (k : Nat) : cntB (fun j => p j || q j) k ≤ cntB p k + cntB q k := by
  induction k with
  | zero => simp [cntB]
  | succ k ih =>
    rw [cntB_succ, cntB_succ, cntB_succ]
    cases p k <;> cases q k <;> simp <;> omega
theorem cntB_one (x k : Nat) : cntB (fun j => decide (j = x)) k ≤ 1 ∧ (k ≤ x → cntB (fun j => decide (j = x)) k = 0) := by
  induction k with
  | zero => simp [cntB]
  | succ k ih =>
    rw [cntB_succ]
    by_cases h : k = x
    · subst h
      have := ih.2 (Nat.le_refl _)
      simp [this]
    · simp only [decide_eq_false h, Bool.false_eq_true, if_false]
      exact ⟨by omega, fun hk => by have := ih.2 (by omega); omega⟩
def oftenN (W : List Int) (k s : Nat) : Nat := cntB (fun j => decide (W.getD j 0 = (s : Int))) k
def someN (W : List Int) (k : Nat) : Nat := cntB (fun j => decide (0 ≤ W.getD j 0)) k
def kindsN (W : List Int) (n : Nat) : Nat := cntB (fun s => decide (0 < oftenN W W.length s)) n
theorem often_pos {W : List Int} {k s : Nat} (h : 0 < oftenN W k s) : ∃ j, j < k ∧ W.getD j 0 = (s : Int) := by
  rw [oftenN, cntB] at h
  obtain ⟨j, hj⟩ := List.exists_mem_of_length_pos h
  rw [List.mem_filter, List.mem_range, decide_eq_true_eq] at hj
  exact ⟨j, hj⟩

section
variable {t : List Node}
theorem no_child {k : Nat} (hk : k < (leavesOf t).length) {j : Nat} (hj : j < t.length) : parOf t j ≠ (leavesOf t).getD k 0 := fun e => by
  have h : (leavesOf t).getD k 0 ∈ leavesOf t := by rw [List.getD, List.getElem?_eq_getElem hk]; exact List.getElem_mem hk
  rw [leavesOf, leavesTo, List.mem_map] at h
  obtain ⟨v, h1, h2⟩ := h
  rw [List.mem_filter, decide_eq_true_eq] at h1
  have : (j : Int) ∈ kids t v := by
    rw [kids, kidsTo, List.mem_map]
    exact ⟨j, by rw [List.mem_filter, List.mem_range, decide_eq_true_eq]; exact ⟨hj, by rw [e]; exact h2.symm⟩, rfl⟩
  rw [h1.2] at this
  cases this
theorem putTo_off {L W A : List Int} {u : Nat} : ∀ k, (∀ j, j < k → (L.getD j 0).toNat ≠ u) → (putTo L W A k).getD u 0 = A.getD u 0
  | 0, _ => rfl
  | k + 1, h => by
    have ih := putTo_off (W := W) (A := A) k fun j hj => h j (by omega)
    rw [putTo]
    split
    · have hne := h k (by omega)
      rw [List.getD_eq_getElem?_getD, List.getElem?_set_ne hne, ← List.getD_eq_getElem?_getD]
      exact ih
    · exact ih
/-- a node without children takes another state -/
theorem cost_set {m : List (List Int)} {A : List Int} {v : Nat} {x : Int} (hv : v < A.length) (hn : ∀ j, 0 < j → j < t.length → parN t j ≠ v) : ∀ K, K + 1 ≤ t.length →
    costTo t m (A.set v x) K = costTo t m A K + if 0 < v ∧ v ≤ K then xAt t m (A.set v x) v - xAt t m A v else 0
  | 0, _ => by rw [if_neg (by omega)]; rfl
  | K + 1, hK => by
    rw [costTo, costTo, cost_set hv hn K (by omega)]
    have hne := hn (K + 1) (by omega) (by omega)
    have hoff : ∀ u, u ≠ v → (A.set v x).getD u 0 = A.getD u 0 := fun u hu => by
      rw [List.getD_eq_getElem?_getD, List.getElem?_set_ne (fun e => hu e.symm), ← List.getD_eq_getElem?_getD]
    by_cases hk : K + 1 = v
    · subst hk
      rw [if_neg (by omega), if_pos ⟨by omega, Nat.le_refl _⟩]
      omega
    · have e : xAt t m (A.set v x) (K + 1) = xAt t m A (K + 1) := by rw [xAt, xAt, hoff _ hne, hoff _ hk]
      rw [e]
      by_cases hh : 0 < v ∧ v ≤ K
      · rw [if_pos hh, if_pos ⟨hh.1, by omega⟩]; omega
      · rw [if_neg hh, if_neg (by omega)]; omega
theorem steps_put {n s : Nat} {W : List Int} (ht : okTree t = true) (hs : s < n) (hWl : W.length = (leavesOf t).length) (hW : ∀ k, k < W.length → -1 ≤ W.getD k 0 ∧ W.getD k 0 < n) : ∀ k, k ≤ W.length →
    costTo t (stepT n n) (putTo (leavesOf t) W (List.replicate t.length (s : Int)) k) (t.length - 1) + (oftenN W k s : Int) ≤ (someN W k : Int)
  | 0, _ => by
    have h0 : ∀ K, K + 1 ≤ t.length → costTo t (stepT n n) (List.replicate t.length (s : Int)) K = 0 := by
      intro K
      induction K with
      | zero => intro _; rfl
      | succ K ih =>
        intro hK
        have hp := (par_lt ht (K + 1) (by omega) (by omega)).1
        rw [costTo, ih (by omega), xAt, rep_at (by omega), rep_at (by omega)]
        have e : ((s : Int)).toNat = s := rfl
        rw [e, stepT_cell hs hs, if_pos rfl]; rfl
    have := (okTree_len ht).1
    rw [putTo, h0 _ (by omega)]
    simp [oftenN, someN, cntB]
  | k + 1, hk => by
    have ih := steps_put ht hs hWl hW k (by omega)
    have ho : oftenN W (k + 1) s = oftenN W k s + if decide (W.getD k 0 = (s : Int)) then 1 else 0 := cntB_succ ..
    have hsm : someN W (k + 1) = someN W k + if decide (0 ≤ W.getD k 0) then 1 else 0 := cntB_succ ..
    rw [ho, hsm, putTo]
    have hn := (okTree_len ht).1
    by_cases hw : 0 ≤ W.getD k 0
    · rw [if_pos hw, if_pos (decide_eq_true hw)]
      obtain ⟨v, hv1, hv2⟩ := leaf_at (t := t) (k := k) (by omega)
      obtain ⟨B, hB⟩ : ∃ B, putTo (leavesOf t) W (List.replicate t.length (s : Int)) k = B := ⟨_, rfl⟩
      have hBl : B.length = t.length := by rw [← hB, putTo_len, List.length_replicate]
      have hvt : ((leavesOf t).getD k 0).toNat = v := by rw [hv1]; rfl
      have hnc : ∀ j, 0 < j → j < t.length → parN t j ≠ v := fun j h0 hj e => by
        refine no_child (t := t) (k := k) (by omega) hj ?_
        rw [(par_lt ht j h0 hj).2, e, hv1]
      have hBo : ∀ u, u < t.length → (∀ j, j < k → ((leavesOf t).getD j 0).toNat ≠ u) → B.getD u 0 = (s : Int) := fun u hu hoff => by
        rw [← hB, putTo_off k hoff, rep_at hu]
      have hBv : B.getD v 0 = (s : Int) := hBo v hv2 fun j hj e => by
        obtain ⟨b, hb1, hb2⟩ := leaf_at (t := t) (k := j) (by omega)
        rw [hb1] at e
        have := leaf_inj (t := t) (i := j) (j := k) (by omega) (by omega) (by rw [hb1, hv1]; omega)
        omega
      rw [hB] at ih ⊢
      rw [hvt, cost_set (by omega) hnc _ (by omega)]
      by_cases hv0 : 0 < v
      · have hp := (par_lt ht v hv0 hv2).1
        have hBp : B.getD (parN t v) 0 = (s : Int) := hBo _ (by omega) fun j hj e => by
          obtain ⟨b, hb1, hb2⟩ := leaf_at (t := t) (k := j) (by omega)
          rw [hb1] at e
          refine no_child (t := t) (k := j) (by omega) hv2 ?_
          rw [(par_lt ht v hv0 hv2).2, hb1]
          omega
        have hwn := (hW k (by omega)).2
        have e1 : xAt t (stepT n n) B v = 0 := by
          rw [xAt, hBv, hBp]
          have e : ((s : Int)).toNat = s := rfl
          rw [e, stepT_cell hs hs, if_pos rfl]
        have e2 : xAt t (stepT n n) (B.set v (W.getD k 0)) v = if W.getD k 0 = (s : Int) then 0 else 1 := by
          rw [xAt, List.getD_eq_getElem?_getD (l := B.set v (W.getD k 0)), List.getElem?_set_ne (by omega), ← List.getD_eq_getElem?_getD, hBp, set_at2 (by omega), if_pos rfl]
          have e : ((s : Int)).toNat = s := rfl
          rw [e, stepT_cell hs (by omega)]
          by_cases h : W.getD k 0 = (s : Int)
          · rw [if_pos h, if_pos (by rw [h]; rfl)]
          · rw [if_neg h, if_neg (by omega)]
        rw [if_pos ⟨hv0, by omega⟩, e1, e2]
        by_cases h : W.getD k 0 = (s : Int)
        · rw [if_pos h, if_pos (decide_eq_true h)]; omega
        · rw [if_neg h, if_neg (by simpa using h)]; omega
      · rw [if_neg (by omega)]
        split <;> omega
    · rw [if_neg hw, if_neg (by rw [decide_eq_true_eq]; omega), if_neg (by rw [decide_eq_true_eq]; exact hw)]
      exact ih
theorem steps_upper {n s : Nat} {W : List Int} (ht : okTree t = true) (h12 : n ≤ 12) (hs : s < n) (hWl : W.length = (leavesOf t).length) (hW : ∀ k, k < W.length → -1 ≤ W.getD k 0 ∧ W.getD k 0 < n) :
    errP t (stepT n n) W = 0 ∧ minV t (stepT n n) W + (oftenN W W.length s : Int) ≤ (someN W W.length : Int) := by
  have hck : checkE t (stepT n n) W = 0 := check_of ht (stepT_ok (by omega) h12) hWl fun k hk => by rw [stepT_len]; exact hW k hk
  have hput := steps_put ht hs hWl hW W.length (Nat.le_refl _)
  obtain ⟨B, hB⟩ : ∃ B, putTo (leavesOf t) W (List.replicate t.length (s : Int)) W.length = B := ⟨_, rfl⟩
  have hBl : B.length = t.length := by rw [← hB, putTo_len, List.length_replicate]
  have hbd : Bd n t B := fun v hv => by
    rw [← hB]
    exact putTo_bd (n := (n : Int)) (fun u hu => by rw [rep_at (by simpa using hu)]; omega) (fun k hk => (hW k hk).2) _ (Nat.le_refl _) v (by simpa using hv)
  have hasg : Asg t (stepT n n) W B := by
    refine ⟨hBl, by rw [stepT_len]; exact hbd, fun v hv => ?_, fun v h0 hv => ?_⟩
    · have h1 : B = putTo (leavesOf t) W (List.replicate t.length (s : Int)) (leavesOf t).length := by rw [← hWl, hB]
      rw [h1]
      refine putTo_ini (by simp) (fun u hu => ?_) (fun k hk => (hW k (by omega)).1) hv
      rw [← h1, stepT_len]; exact hbd u hu
    · have hp := (par_lt ht v h0 hv).1
      rw [x_step hbd hv (by omega)]
      split <;> omega
  obtain ⟨h1, h2, _⟩ := opt_lower hck hasg
  rw [hB] at hput
  exact ⟨h1, by omega⟩
theorem steps_lower {n : Nat} {W : List Int} (ht : okTree t = true) (h0 : 0 < n) (h12 : n ≤ 12) (hWl : W.length = (leavesOf t).length) (hW : ∀ k, k < W.length → -1 ≤ W.getD k 0 ∧ W.getD k 0 < n) :
    (kindsN W n : Int) ≤ 1 + minV t (stepT n n) W := by
  obtain ⟨he, _⟩ := steps_upper (s := 0) ht h12 h0 hWl hW
  obtain ⟨ha, hcost, _⟩ := opt_best he
  obtain ⟨A, hA⟩ : ∃ A, bestV t (stepT n n) W = A := ⟨_, rfl⟩
  rw [hA] at ha hcost
  have hbd : Bd n t A := fun v hv => by have := ha.bd v hv; rwa [stepT_len] at this
  have hn := (okTree_len ht).1
  rw [← hcost, cost_ev ht hbd _ (by omega)]
  have key : ∀ k, k + 1 ≤ t.length → cntB (fun s => (List.range (k + 1)).any fun u => decide (aOf A u = s)) n ≤ 1 + (evTo t A (k + 1)).length := by
    intro k
    induction k with
    | zero =>
      intro _
      refine Nat.le_trans (cntB_le (q := fun s => decide (s = aOf A 0)) fun s _ h => ?_) (Nat.le_trans (cntB_one _ _).1 (by omega))
      simpa [eq_comm] using h
    | succ k ih =>
      intro hk
      have ih := ih (by omega)
      have hp := (par_lt ht (k + 1) (by omega) (by omega)).1
      rw [evTo_succ t A (k + 1)]
      by_cases h : A.getD (k + 1) 0 = A.getD (parN t (k + 1)) 0
      · rw [if_neg (fun e => e.2 h)]
        refine Nat.le_trans (cntB_le fun s _ hs => ?_) ih
        rw [List.any_eq_true] at hs ⊢
        obtain ⟨u, h1, h2⟩ := hs
        rw [decide_eq_true_eq] at h2
        by_cases hu : u = k + 1
        · refine ⟨parN t (k + 1), by rw [List.mem_range]; omega, ?_⟩
          rw [decide_eq_true_eq, ← h2, hu, aOf, aOf, h]
        · rw [List.mem_range] at h1
          exact ⟨u, by rw [List.mem_range]; omega, by rw [decide_eq_true_eq]; exact h2⟩
      · rw [if_pos ⟨by omega, h⟩, List.length_append]
        refine Nat.le_trans (cntB_le (q := fun s => ((List.range (k + 1)).any fun u => decide (aOf A u = s)) || decide (s = aOf A (k + 1))) fun s _ hs => ?_) ?_
        · rw [List.any_eq_true] at hs
          obtain ⟨u, h1, h2⟩ := hs
          rw [decide_eq_true_eq] at h2
          rw [Bool.or_eq_true]
          by_cases hu : u = k + 1
          · right; rw [decide_eq_true_eq, ← h2, hu]
          · left
            rw [List.mem_range] at h1
            rw [List.any_eq_true]
            exact ⟨u, by rw [List.mem_range]; omega, by rw [decide_eq_true_eq]; exact h2⟩
        · have h3 := cntB_or (p := fun s => (List.range (k + 1)).any fun u => decide (aOf A u = s)) (q := fun s => decide (s = aOf A (k + 1))) n
          have h4 := (cntB_one (aOf A (k + 1)) n).1
          simp only [List.length_cons, List.length_nil]
          omega
  have h1 := key (t.length - 1) (by omega)
  have h2 : kindsN W n ≤ cntB (fun s => (List.range (t.length - 1 + 1)).any fun u => decide (aOf A u = s)) n := by
    refine cntB_le fun s hs h => ?_
    rw [decide_eq_true_eq] at h
    obtain ⟨j, hj, hw⟩ := often_pos h
    obtain ⟨v, hv1, hv2⟩ := leaf_at (t := t) (k := j) (by omega)
    have hfit := ha.fit v hv2
    have hb := hbd v hv2
    rcases (ini_zero (by rw [stepT_len, aOf]; omega)).1 hfit j (by omega) (by rw [hv1]; rfl) with e | e
    · omega
    · rw [List.any_eq_true]
      exact ⟨v, by rw [List.mem_range]; omega, by rw [decide_eq_true_eq]; omega⟩
  omega
end

end Go.Cp
end

section
set_option linter.unusedVariables false
set_option linter.unusedSimpArgs false
set_option maxHeartbeats 4000000
set_option maxRecDepth 10000
namespace Go.Cp
open Go Go.Proofs Go.Vx

theorem nan_ok (x : Int) : Ok Try.prog E 74 [zv x] (bv false) := by
  refine ok_of_vc (L := []) (ts := [2]) envOK mixed Try.func74 rfl (by kernel_rfl) rfl (by kernel_rfl) rfl fun hl => ?_
  simp only [Try.f74, bne_self_eq_false, nums, zv, nv, bv, VZ, BEq.rfl, seval, -Int.reduceNatCast', kAgg, scD, List.all_cons, List.all_nil]
theorem cmpLess_ok (x y : Int) : Ok Try.prog E 48 [zv x, zv y] (bv (decide (x < y))) := by
  refine ok_of_vc (L := []) (ts := [4]) envOK mixed Try.func48 rfl (by kernel_rfl) rfl (by kernel_rfl) rfl fun hl => ?_
  simp only [Try.f48, nums, zv, nv, bv, VZ, BEq.rfl, seval, -Int.reduceNatCast', kAgg, scD, List.all_cons, List.all_nil]
  refine CallX.mk (nan_ok x) rfl ?_
  simp only [nums, zv, nv, bv, VZ, BEq.rfl, seval, -Int.reduceNatCast', kAgg, scD, List.all_cons, List.all_nil]

theorem sorted_at {xs : List Int} {i : Nat} (h : i + 1 < xs.length) (hs : ¬ xs.getD i 0 ≤ xs.getD (i + 1) 0) : sortedB xs = false := by
  rw [sortedB, List.all_eq_false]
  exact ⟨i, by rw [List.mem_range]; omega, by simpa using hs⟩
theorem sorted_all {xs : List Int} (h : ∀ i, i + 1 < xs.length → xs.getD i 0 ≤ xs.getD (i + 1) 0) : sortedB xs = true := by
  rw [sortedB, List.all_eq_true]
  intro i hi
  rw [decide_eq_true_eq]
  exact h i (by rw [List.mem_range] at hi; omega)
theorem sorted_ok (xs : List Int) (hx : xs.length ≤ 1000) : Ok Try.prog E 19 [.c (nums xs)] (bv (sortedB xs)) := by
  refine ok_of_vc (L := []) (ts := [2]) envOK mixed Try.func19 rfl (by kernel_rfl) rfl (by kernel_rfl) rfl fun hl => ?_
  have w1 : IntKind.i64.wrap ((xs.length : Int) - 1) = (xs.length : Int) - 1 := wrap_in (by omega) (by omega)
  simp only [Try.f19, w1, nums, zv, nv, bv, VZ, BEq.rfl, seval, -Int.reduceNatCast', kAgg, scD, List.all_cons, List.all_nil]
  refine LoopVC.mk (Y := Nat) (fun k => k ≤ xs.length ∧ ∀ i, xs.length ≤ i + 1 + k → i + 1 < xs.length → xs.getD i 0 ≤ xs.getD (i + 1) 0) (fun k => ⟨[(0, .c (nums xs)), (3, zv ((xs.length : Int) - 1 - (k : Int)))], []⟩) (fun k => xs.length - k) ⟨0, Enter.id ?_, by omega, fun i h1 h2 => by omega⟩ ?_
  · simp only [nums, zv, nv, bv, VZ, BEq.rfl, seval, -Int.reduceNatCast', kAgg, scD, List.all_cons, List.all_nil]
    congr 2
    omega
  rintro k ⟨hk, hpre⟩
  simp only [nums, zv, nv, bv, VZ, BEq.rfl, seval, -Int.reduceNatCast', kAgg, scD, List.all_cons, List.all_nil]
  refine guardB.mk (fun h => ?_) (fun h => ?_)
  · have h : (0 : Int) < (xs.length : Int) - 1 - (k : Int) := by simpa using h
    obtain ⟨j, hj⟩ : ∃ j : Nat, xs.length = j + 2 + k := ⟨xs.length - 2 - k, by omega⟩
    have e1 : (xs.length : Int) - 1 - (k : Int) = ((j + 1 : Nat) : Int) := by omega
    have w2 : IntKind.i64.wrap (((j + 1 : Nat) : Int) - 1) = (j : Int) := by rw [wrap_in (by omega) (by omega)]; omega
    simp only [e1, w2, getD_num xs (j + 1) (by omega), getD_num xs j (by omega), num_def, nums, zv, nv, bv, VZ, BEq.rfl, seval, -Int.reduceNatCast', kAgg, scD, List.all_cons, List.all_nil]
    refine ⟨⟨Int.natCast_nonneg _, by omega⟩, ⟨Int.natCast_nonneg _, by omega⟩, ?_⟩
    refine CallX.mk (cmpLess_ok _ _) rfl ?_
    simp only [nums, zv, nv, bv, VZ, BEq.rfl, seval, -Int.reduceNatCast', kAgg, scD, List.all_cons, List.all_nil]
    refine guardB.mk (fun h => ?_) (fun h => ?_) <;> simp only [h, nums, zv, nv, bv, VZ, BEq.rfl, seval, -Int.reduceNatCast', kAgg, scD, List.all_cons, List.all_nil]
    · have h : xs.getD (j + 1) 0 < xs.getD j 0 := by simpa using h
      simp only [sorted_at (xs := xs) (i := j) (by omega) (by omega), nums, zv, nv, bv, VZ, BEq.rfl, seval, -Int.reduceNatCast', kAgg, scD, List.all_cons, List.all_nil]
    · have h : ¬ xs.getD (j + 1) 0 < xs.getD j 0 := by simpa using h
      refine ⟨k + 1, Enter.id ?_, ⟨by omega, fun i h1 h2 => ?_⟩, by show xs.length - (k + 1) < xs.length - k; omega⟩
      · simp only [nums, zv, nv, bv, VZ, BEq.rfl, seval, -Int.reduceNatCast', kAgg, scD, List.all_cons, List.all_nil]
        congr 2
        omega
      · by_cases hi : xs.length ≤ i + 1 + k
        · exact hpre i hi h2
        · have : i = j := by omega
          subst this
          omega
  · have h : ¬ (0 : Int) < (xs.length : Int) - 1 - (k : Int) := by simpa using h
    simp only [sorted_all fun i hi => hpre i (by omega) hi, nums, zv, nv, bv, VZ, BEq.rfl, seval, -Int.reduceNatCast', kAgg, scD, List.all_cons, List.all_nil]

def indexTo (xs : List Int) (v : Int) : Int := if v ∈ xs then 0 else -1
theorem index_ok (xs : List Int) (v : Int) (hx : xs.length ≤ 1000) : ∃ i : Int, Ok Try.prog E 49 [.c (nums xs), zv v] (zv i) ∧ decide (0 ≤ i) = decide (v ∈ xs) := by
  by_cases hv : v ∈ xs
  · obtain ⟨n, hn, hn2, hn3⟩ : ∃ n : Nat, n < xs.length ∧ xs.getD n 0 = v ∧ ∀ m, m < n → xs.getD m 0 ≠ v := by
      have hex : ∃ n : Nat, n < xs.length ∧ xs.getD n 0 = v := by
        obtain ⟨n, hn, e⟩ := List.mem_iff_getElem.1 hv
        exact ⟨n, hn, by rw [getD_of 0 _ n hn]; exact e⟩
      have : ∀ B, (∃ n : Nat, n < B ∧ n < xs.length ∧ xs.getD n 0 = v) → ∃ n : Nat, n < xs.length ∧ xs.getD n 0 = v ∧ ∀ m, m < n → xs.getD m 0 ≠ v := by
        intro B
        induction B with
        | zero => rintro ⟨n, h, _⟩; omega
        | succ B ih =>
          rintro ⟨n, h1, h2, h3⟩
          by_cases hB : ∃ n : Nat, n < B ∧ n < xs.length ∧ xs.getD n 0 = v
          · exact ih hB
          · exact ⟨n, h2, h3, fun m hm e => hB ⟨m, by omega, by omega, e⟩⟩
      obtain ⟨n, h1, h2⟩ := hex
      exact this (n + 1) ⟨n, by omega, h1, h2⟩
    refine ⟨(n : Int), ?_, by rw [decide_eq_true (show (0 : Int) ≤ (n : Int) by omega), decide_eq_true hv]⟩
    refine ok_of_vc (L := []) (ts := [4]) envOK mixed Try.func49 rfl (by kernel_rfl) rfl (by kernel_rfl) rfl fun hl => ?_
    simp only [Try.f49, nums, zv, nv, bv, VZ, BEq.rfl, seval, -Int.reduceNatCast', kAgg, scD, List.all_cons, List.all_nil]
    refine LoopVC.mk (Y := Nat) (fun k => k ≤ n) (fun k => ⟨[(0, .c (nums xs)), (1, zv v), (7, nv xs.length), (8, nv k)], []⟩) (fun k => xs.length - k) ⟨0, Enter.id ?_, by omega⟩ ?_
    · simp only [nums, zv, nv, bv, VZ, BEq.rfl, seval, -Int.reduceNatCast', kAgg, scD, List.all_cons, List.all_nil]
      try rfl
    intro k hk
    have hg : decide ((k : Int) < (xs.length : Int)) = true := decide_eq_true (by omega)
    simp only [hg, getD_num xs k (by omega), num_def, nums, zv, nv, bv, VZ, BEq.rfl, seval, -Int.reduceNatCast', kAgg, scD, List.all_cons, List.all_nil]
    refine ⟨⟨Int.natCast_nonneg _, by omega⟩, ?_⟩
    simp only [int_beq, nums, zv, nv, bv, VZ, BEq.rfl, seval, -Int.reduceNatCast', kAgg, scD, List.all_cons, List.all_nil]
    refine guardB.mk (fun h => ?_) (fun h => ?_) <;> simp only [h, nums, zv, nv, bv, VZ, BEq.rfl, seval, -Int.reduceNatCast', kAgg, scD, List.all_cons, List.all_nil]
    · have h : v = xs.getD k 0 := by simpa using h
      have : k = n := by
        by_cases e : k < n
        · exact (hn3 k e h.symm).elim
        · omega
      subst this
      simp only [nums, zv, nv, bv, VZ, BEq.rfl, seval, -Int.reduceNatCast', kAgg, scD, List.all_cons, List.all_nil]
    · have h : v ≠ xs.getD k 0 := by simpa using h
      have hne : k ≠ n := fun e => h (by rw [e]; exact hn2.symm)
      simp only [wrap_nat (k := k) (by omega), nums, zv, nv, bv, VZ, BEq.rfl, seval, -Int.reduceNatCast', kAgg, scD, List.all_cons, List.all_nil]
      refine ⟨k + 1, Enter.id ?_, by omega, by show xs.length - (k + 1) < xs.length - k; omega⟩
      simp only [nums, zv, nv, bv, VZ, BEq.rfl, seval, -Int.reduceNatCast', kAgg, scD, List.all_cons, List.all_nil]
  · refine ⟨-1, ?_, by rw [decide_eq_false hv]; rfl⟩
    refine ok_of_vc (L := []) (ts := [4]) envOK mixed Try.func49 rfl (by kernel_rfl) rfl (by kernel_rfl) rfl fun hl => ?_
    simp only [Try.f49, nums, zv, nv, bv, VZ, BEq.rfl, seval, -Int.reduceNatCast', kAgg, scD, List.all_cons, List.all_nil]
    refine LoopVC.mk (Y := Nat) (fun k => k ≤ xs.length) (fun k => ⟨[(0, .c (nums xs)), (1, zv v), (7, nv xs.length), (8, nv k)], []⟩) (fun k => xs.length - k) ⟨0, Enter.id ?_, by omega⟩ ?_
    · simp only [nums, zv, nv, bv, VZ, BEq.rfl, seval, -Int.reduceNatCast', kAgg, scD, List.all_cons, List.all_nil]
      try rfl
    intro k hk
    simp only [lt_nat, nums, zv, nv, bv, VZ, BEq.rfl, seval, -Int.reduceNatCast', kAgg, scD, List.all_cons, List.all_nil]
    refine guardB.mk (fun h => ?_) (fun h => ?_)
    · have hk' : k < xs.length := by simpa using h
      clear h
      have hne : ¬ v = xs.getD k 0 := fun e => hv (by rw [e, getD_of 0 _ k hk']; exact List.getElem_mem hk')
      simp only [getD_num xs k (by omega), num_def, nums, zv, nv, bv, VZ, BEq.rfl, seval, -Int.reduceNatCast', kAgg, scD, List.all_cons, List.all_nil]
      refine ⟨⟨Int.natCast_nonneg _, by omega⟩, ?_⟩
      simp only [int_beq, decide_eq_false hne, wrap_nat (k := k) (by omega), nums, zv, nv, bv, VZ, BEq.rfl, seval, -Int.reduceNatCast', kAgg, scD, List.all_cons, List.all_nil]
      refine ⟨k + 1, Enter.id ?_, by omega, by show xs.length - (k + 1) < xs.length - k; omega⟩
      simp only [nums, zv, nv, bv, VZ, BEq.rfl, seval, -Int.reduceNatCast', kAgg, scD, List.all_cons, List.all_nil]
    · simp only [nums, zv, nv, bv, VZ, BEq.rfl, seval, -Int.reduceNatCast', kAgg, scD, List.all_cons, List.all_nil]
theorem contains_ok (xs : List Int) (v : Int) (hx : xs.length ≤ 1000) : Ok Try.prog E 20 [.c (nums xs), zv v] (bv (decide (v ∈ xs))) := by
  obtain ⟨i, h1, h2⟩ := index_ok xs v hx
  refine ok_of_vc (L := []) (ts := [4]) envOK mixed Try.func20 rfl (by kernel_rfl) rfl (by kernel_rfl) rfl fun hl => ?_
  simp only [Try.f20, nums, zv, nv, bv, VZ, BEq.rfl, seval, -Int.reduceNatCast', kAgg, scD, List.all_cons, List.all_nil]
  refine CallX.mk h1 rfl ?_
  simp only [h2, nums, zv, nv, bv, VZ, BEq.rfl, seval, -Int.reduceNatCast', kAgg, scD, List.all_cons, List.all_nil]

end Go.Cp
end
