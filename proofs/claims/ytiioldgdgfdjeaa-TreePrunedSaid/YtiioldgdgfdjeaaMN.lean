/-
  Tree: what is left of a tree is a tree (plain). Conditions: none.
  Tree: the sets of leaves of what is left of a tree (plain). Conditions: none.
-/
import Derived.Test.YtiioldgdgfdjeaaMM

section
set_option linter.unusedVariables false
set_option linter.unusedSimpArgs false
set_option maxHeartbeats 4000000
set_option maxRecDepth 10000
namespace Go.Cp
open Go Go.Proofs Go.Vx

/-! ranks -/
section
variable {S : Nat → Bool}
theorem rank_mono {u v : Nat} (h : u ≤ v) : rank S u ≤ rank S v := by
  induction v with
  | zero => rw [show u = 0 by omega]; exact Nat.le_refl _
  | succ v ih =>
    by_cases e : u = v + 1
    · rw [e]; exact Nat.le_refl _
    · have := ih (by omega)
      rw [rank_succ]; omega
theorem rank_lt {u v : Nat} (hu : S u = true) (h : u < v) : rank S u < rank S v := by
  have h1 := rank_mono (S := S) (show u + 1 ≤ v by omega)
  rw [rank_succ, if_pos hu] at h1
  omega
theorem rank_inj {u v : Nat} (hu : S u = true) (hv : S v = true) (h : rank S u = rank S v) : u = v := by
  rcases Nat.lt_trichotomy u v with g | g | g
  · have := rank_lt hu g; omega
  · exact g
  · have := rank_lt hv g; omega
theorem lt_of_rank {u v : Nat} (h : rank S u < rank S v) : u < v := by
  rcases Nat.lt_or_ge u v with g | g
  · exact g
  · have := rank_mono (S := S) g; omega
theorem rank_onto : ∀ {n r : Nat}, r < rank S n → ∃ v, v < n ∧ S v = true ∧ rank S v = r
  | 0, r, h => by simp [rank] at h
  | n + 1, r, h => by
    rw [rank_succ] at h
    by_cases h1 : r < rank S n
    · obtain ⟨v, g1, g2, g3⟩ := rank_onto h1
      exact ⟨v, by omega, g2, g3⟩
    · by_cases hs : S n = true
      · rw [if_pos hs] at h
        exact ⟨n, by omega, hs, by omega⟩
      · rw [if_neg hs] at h; omega
theorem prTo_at {t : List Node} : ∀ {n v : Nat}, v < n → S v = true → (prTo t S n).getD (rank S v) Node.zero = ⟨parOut t S v, nameOf t v⟩
  | 0, v, h, _ => by omega
  | n + 1, v, h, hs => by
    rw [prTo_succ]
    by_cases e : v = n
    · subst e
      rw [if_pos hs, List.getD, List.getElem?_append_right (by rw [prTo_len]; exact Nat.le_refl _), prTo_len, Nat.sub_self]
      rfl
    · have hlt := rank_lt hs (show v < n by omega)
      split
      · rw [List.getD, List.getElem?_append_left (by rw [prTo_len]; exact hlt)]
        exact prTo_at (show v < n by omega) hs
      · exact prTo_at (by omega) hs
/-- those above that stay -/
theorem filt_find {t : List Node} (ht : okTree t = true) : ∀ n v, v ≤ n → v < t.length → (∀ p, (ups t v).find? S = some p → S p = true ∧ p ≤ v ∧ p ∈ ups t v ∧ (ups t v).filter S = (ups t p).filter S) ∧ ((ups t v).find? S = none → (ups t v).filter S = [])
  | n, v, h1, h2 => by
    refine ⟨fun p hp => ?_, fun hn => ?_⟩
    · have e := ups_eq ht h2
      by_cases hs : S v = true
      · rw [e, List.find?_cons_of_pos hs] at hp
        injection hp with hp
        subst hp
        exact ⟨hs, Nat.le_refl _, ups_self ht h2, rfl⟩
      · rw [e, List.find?_cons_of_neg hs] at hp
        by_cases h0 : v = 0
        · rw [if_pos h0] at hp; cases hp
        · rw [if_neg h0] at hp
          obtain ⟨g1, _⟩ := okTree_parN ht h2 (by omega)
          cases n with
          | zero => omega
          | succ n =>
            obtain ⟨a1, a2, a3, a4⟩ := (filt_find ht n (parN t v) (by omega) (by omega)).1 p hp
            refine ⟨a1, by omega, ?_, ?_⟩
            · rw [e, if_neg h0]; exact List.mem_cons_of_mem _ a3
            · rw [e, if_neg h0, List.filter_cons_of_neg hs]; exact a4
    · rw [List.find?_eq_none] at hn
      rw [List.filter_eq_nil_iff]
      exact hn
end
theorem above_lt {t : List Node} (ht : okTree t = true) {v p : Nat} (hv : v < t.length) (h : p ∈ upL t v) : p < v ∧ p ∈ ups t v := by
  rw [upL] at h
  split at h
  · cases h
  · rename_i h0
    obtain ⟨g1, _⟩ := okTree_parN ht hv (by omega)
    have := ups_le' ht (by omega) h
    exact ⟨by omega, by rw [ups_eq ht hv, if_neg h0]; exact List.mem_cons_of_mem _ h⟩
theorem above_of {t : List Node} (ht : okTree t = true) {v p : Nat} (hv : v < t.length) (h : p ∈ ups t v) (hne : p ≠ v) : p ∈ upL t v := by
  rw [ups_eq ht hv] at h
  rcases List.mem_cons.1 h with h | h
  · exact (hne h).elim
  · exact h
theorem com_sym {t : List Node} (h : okTree t = true) {a b : Nat} (ha : a < t.length) (hb : b < t.length) : com t a b = com t b a := by
  have h1 := com_mem h ha hb
  have h2 := com_mem h hb ha
  have h3 := ups_le' h (com_lt h hb ha) (com_max h hb ha h1.2 h1.1)
  have h4 := ups_le' h (com_lt h ha hb) (com_max h ha hb h2.2 h2.1)
  omega

section
variable {t : List Node} {keep : List Int}
theorem leafAt_ok (hk : LeavesIn t keep) {i : Nat} (hi : i < keep.length) : leafAt keep i < t.length ∧ kids t (leafAt keep i : Nat) = [] := by
  obtain ⟨a, h1, h2, h3⟩ := hk i hi
  rw [leafAt, h1]; exact ⟨h2, h3⟩
theorem stays_com (ht : okTree t = true) (hk : LeavesIn t keep) {i j : Nat} (hi : i < keep.length) (hj : j < keep.length) : stays t keep (com t (leafAt keep i) (leafAt keep j)) = true := by
  have hi1 := (leafAt_ok hk hi).1
  have hj1 := (leafAt_ok hk hj).1
  rw [stays_eq ht hk (com_lt ht hi1 hj1)]
  simp only [staysR, List.any_eq_true, decide_eq_true_eq, List.mem_range]
  rcases Nat.le_total j i with h | h
  · exact ⟨i, hi, j, by omega, rfl⟩
  · exact ⟨j, hj, i, by omega, com_sym ht hj1 hi1⟩
theorem stays_leaf (ht : okTree t = true) (hk : LeavesIn t keep) {i : Nat} (hi : i < keep.length) : stays t keep (leafAt keep i) = true := by
  have := stays_com ht hk hi hi
  rwa [com_same] at this
theorem stays_under {v : Nat} (h : stays t keep v = true) : ∃ i, i < keep.length ∧ v ∈ ups t (leafAt keep i) := by
  rw [stays, Bool.and_eq_true] at h
  exact bpos_iff.1 h.1
theorem com_stays (ht : okTree t = true) (hk : LeavesIn t keep) {v w : Nat} (hv : v < t.length) (hw : w < t.length) (hsv : stays t keep v = true) (hsw : stays t keep w = true) : stays t keep (com t v w) = true := by
  have hm := com_mem ht hv hw
  have hcl := com_lt ht hv hw
  by_cases e1 : com t v w = v
  · rw [e1]; exact hsv
  · by_cases e2 : com t v w = w
    · rw [e2]; exact hsw
    · obtain ⟨c, c1, c2, c3⟩ := child_on ht _ _ (Nat.le_refl _) hv hm.1 e1
      obtain ⟨d, d1, d2, d3⟩ := child_on ht _ _ (Nat.le_refl _) hw hm.2 e2
      obtain ⟨i, hi, hvi⟩ := stays_under hsv
      obtain ⟨j, hj, hwj⟩ := stays_under hsw
      have hi1 := (leafAt_ok hk hi).1
      have hj1 := (leafAt_ok hk hj).1
      have hcd : c ≠ d := fun e => by
        rw [← e] at d3
        have := ups_le' ht hcl (com_max ht hv hw c3 d3)
        have := (kid_gt ht c1 c2).1
        omega
      have := com_branch ht hi1 hj1 c1 d1 c2 d2 hcd (ups_trans ht hi1 hvi c3) (ups_trans ht hj1 hwj d3)
      rw [← this]
      exact stays_com ht hk hi hj
theorem up_stays (ht : okTree t = true) (hk : LeavesIn t keep) {v w : Nat} (hv : v < t.length) (hsv : stays t keep v = true) (hsw : stays t keep w = true) (h : w < v) : ∃ p, (upL t v).find? (stays t keep) = some p := by
  have hm := com_mem ht hv (show w < t.length by omega)
  have hs := com_stays ht hk hv (by omega) hsv hsw
  have hne : com t v w ≠ v := fun e => by
    have := ups_le' ht (show w < t.length by omega) hm.2
    omega
  cases hf : (upL t v).find? (stays t keep) with
  | some p => exact ⟨p, rfl⟩
  | none =>
    rw [List.find?_eq_none] at hf
    exact (hf _ (above_of ht hv hm.1 hne) hs).elim
theorem up_find (ht : okTree t = true) {S : Nat → Bool} {v p : Nat} (hv : v < t.length) (h : (upL t v).find? S = some p) : S p = true ∧ p < v ∧ (upL t v).filter S = (ups t p).filter S := by
  have h1 := above_lt ht hv (List.mem_of_find?_eq_some h)
  refine ⟨List.find?_some h, h1.1, ?_⟩
  rw [upL] at h ⊢
  split at h
  · cases h
  · rename_i h0
    obtain ⟨g1, _⟩ := okTree_parN ht hv (by omega)
    rw [if_neg h0]
    exact ((filt_find ht _ _ (Nat.le_refl _) (by omega)).1 p h).2.2.2

/-- the tree that is left -/
def left (t : List Node) (keep : List Int) : List Node := prTo t (stays t keep) t.length
theorem left_len : (left t keep).length = rank (stays t keep) t.length := prTo_len ..
theorem left_node {v : Nat} (hv : v < t.length) (hs : stays t keep v = true) : (left t keep).getD (rank (stays t keep) v) Node.zero = ⟨parOut t (stays t keep) v, nameOf t v⟩ := prTo_at hv hs
theorem left_lt {v : Nat} (hv : v < t.length) (hs : stays t keep v = true) : rank (stays t keep) v < (left t keep).length := by
  rw [left_len]; exact rank_lt hs hv
theorem left_onto {r : Nat} (h : r < (left t keep).length) : ∃ v, v < t.length ∧ stays t keep v = true ∧ rank (stays t keep) v = r := by
  rw [left_len] at h; exact rank_onto h
theorem left_par (ht : okTree t = true) (hk : LeavesIn t keep) {v : Nat} (hv : v < t.length) (hs : stays t keep v = true) :
    (rank (stays t keep) v = 0 ∧ parOut t (stays t keep) v = -1 ∧ (upL t v).filter (stays t keep) = []) ∨ (∃ p, stays t keep p = true ∧ p < v ∧ parOut t (stays t keep) v = (rank (stays t keep) p : Int) ∧ rank (stays t keep) p < rank (stays t keep) v ∧ (upL t v).filter (stays t keep) = (ups t p).filter (stays t keep)) := by
  cases hf : (upL t v).find? (stays t keep) with
  | none =>
    refine .inl ⟨?_, by rw [parOut, hf], by rw [List.filter_eq_nil_iff]; exact List.find?_eq_none.1 hf⟩
    rcases Nat.eq_zero_or_pos (rank (stays t keep) v) with h | h
    · exact h
    · obtain ⟨w, hw1, hw2, hw3⟩ := left_onto (t := t) (keep := keep) (r := 0) (Nat.lt_trans h (left_lt hv hs))
      obtain ⟨p, hp⟩ := up_stays ht hk hv hs hw2 (lt_of_rank (S := stays t keep) (by omega))
      rw [hf] at hp; cases hp
  | some p =>
    obtain ⟨h1, h2, h3⟩ := up_find ht hv hf
    exact .inr ⟨p, h1, h2, by rw [parOut, hf], rank_lt h1 h2, h3⟩
theorem left_ok (ht : okTree t = true) (hk : LeavesIn t keep) (hne : 0 < keep.length) : okTree (left t keep) = true := by
  have hn := okTree_len ht
  have h0 := left_lt (leafAt_ok hk hne).1 (stays_leaf ht hk hne)
  have h1 : (left t keep).length ≤ 63 := by
    rw [left_len]
    have := rank_le (stays t keep) t.length
    omega
  rw [okTree, Bool.and_eq_true, Bool.and_eq_true, decide_eq_true_eq, decide_eq_true_eq, List.all_eq_true]
  refine ⟨by omega, h1, fun r hr => ?_⟩
  obtain ⟨v, hv, hs, rfl⟩ := left_onto (t := t) (keep := keep) (by simpa using hr)
  have hnode := okTree_node ht hv
  simp only [okNode, Bool.and_eq_true] at hnode
  have hl := left_node hv hs
  simp only [okNode, Bool.and_eq_true, okPar, hl, fresh, List.all_eq_true, decide_eq_true_eq]
  refine ⟨?_, hnode.2.1, fun q hq => ?_⟩
  · rcases left_par ht hk hv hs with ⟨a1, a2, _⟩ | ⟨p, a1, a2, a3, a4, _⟩
    · rw [if_pos a1, a2]; rfl
    · rw [if_neg (by omega), a3, Bool.and_eq_true, decide_eq_true_eq, decide_eq_true_eq]
      omega
  · have hq : q < rank (stays t keep) v := by simpa using hq
    have hvl := left_lt hv hs
    obtain ⟨w, hw, hsw, rfl⟩ := left_onto (t := t) (keep := keep) (r := q) (by omega)
    rw [left_node hw hsw]
    have hfr := hnode.2.2
    rw [fresh, List.all_eq_true] at hfr
    have := hfr w (by simpa using lt_of_rank hq)
    exact of_decide_eq_true this
theorem left_parOf {v : Nat} (hv : v < t.length) (hs : stays t keep v = true) : parOf (left t keep) (rank (stays t keep) v) = parOut t (stays t keep) v := by
  rw [parOf, left_node hv hs]
theorem left_ups (ht : okTree t = true) (hk : LeavesIn t keep) (hne : 0 < keep.length) : ∀ n v, v ≤ n → v < t.length → stays t keep v = true → ups (left t keep) (rank (stays t keep) v) = ((ups t v).filter (stays t keep)).map (rank (stays t keep))
  | n, v, h1, hv, hs => by
    have hok := left_ok ht hk hne
    rw [ups_eq hok (left_lt hv hs), ups_eq ht hv, List.filter_cons_of_pos hs, List.map_cons]
    have hu : (if v = 0 then [] else ups t (parN t v)) = upL t v := rfl
    rw [hu]
    congr 1
    rcases left_par ht hk hv hs with ⟨a1, a2, a3⟩ | ⟨p, a1, a2, a3, a4, a5⟩
    · rw [if_pos a1, a3]; rfl
    · have hp : parN (left t keep) (rank (stays t keep) v) = rank (stays t keep) p := by rw [parN, left_parOf hv hs, a3]; rfl
      rw [if_neg (by omega), a5, hp]
      cases n with
      | zero => omega
      | succ n => exact left_ups ht hk hne n p (by omega) (by omega) a1
theorem left_mem (ht : okTree t = true) (hk : LeavesIn t keep) (hne : 0 < keep.length) {v w : Nat} (hv : v < t.length) (hs : stays t keep v = true) (hsw : stays t keep w = true) : rank (stays t keep) w ∈ ups (left t keep) (rank (stays t keep) v) ↔ w ∈ ups t v := by
  rw [left_ups ht hk hne _ _ (Nat.le_refl _) hv hs, List.mem_map]
  constructor
  · rintro ⟨x, hx, e⟩
    obtain ⟨h1, h2⟩ := List.mem_filter.1 hx
    rw [← rank_inj h2 hsw e]; exact h1
  · intro h
    exact ⟨w, List.mem_filter.2 ⟨h, hsw⟩, rfl⟩
theorem left_leaf (ht : okTree t = true) (hk : LeavesIn t keep) (hne : 0 < keep.length) {v : Nat} (hv : v < t.length) (hs : stays t keep v = true) : kids (left t keep) (rank (stays t keep) v : Nat) = [] ↔ ∃ i, i < keep.length ∧ leafAt keep i = v := by
  have hok := left_ok ht hk hne
  constructor
  · intro h
    obtain ⟨i, hi, hu⟩ := stays_under hs
    have hl := leafAt_ok hk hi
    have hsl := stays_leaf ht hk hi
    by_cases e : leafAt keep i = v
    · exact ⟨i, hi, e⟩
    · obtain ⟨c, c1, c2, _⟩ := child_on hok _ _ (Nat.le_refl _) (left_lt hl.1 hsl) ((left_mem ht hk hne hl.1 hsl hs).2 hu) (fun e2 => e (rank_inj hsl hs e2.symm))
      have := mem_kids c1 c2
      rw [h] at this; cases this
  · rintro ⟨i, hi, rfl⟩
    have hl := leafAt_ok hk hi
    cases hkk : kids (left t keep) (rank (stays t keep) (leafAt keep i) : Nat) with
    | nil => rfl
    | cons x r =>
      obtain ⟨c, _, c1, c2⟩ := kid_idx (t := left t keep) (v := rank (stays t keep) (leafAt keep i)) (j := 0) (by rw [hkk]; exact Nat.succ_pos _)
      obtain ⟨w, hw, hsw, rfl⟩ := left_onto c1
      have hm := (kid_below hok c1 c2 c1 (ups_self hok c1)).2
      have := leaf_above ht hw hl.2 ((left_mem ht hk hne hw hsw hs).1 hm)
      have h2 := (kid_gt hok c1 c2).1
      rw [← this] at h2
      omega
/-- no node has one child -/
theorem left_kids (ht : okTree t = true) (hk : LeavesIn t keep) (hne : 0 < keep.length) {v : Nat} (hv : v < t.length) (hs : stays t keep v = true) : (kids (left t keep) (rank (stays t keep) v : Nat)).length ≠ 1 := by
  have hok := left_ok ht hk hne
  intro h1
  have hs2 := hs
  rw [stays, Bool.and_eq_true, decide_eq_true_eq] at hs2
  by_cases hb : 2 ≤ brTo t keep v (kids t v).length
  · obtain ⟨j1, j2, hj1, hj2, hjn, p1, p2⟩ := ne_of_two (n := (kids t v).length) (p := fun i => bpos t keep ((kids t v).getD i 0).toNat) hb
    obtain ⟨c, e1, c1, c2⟩ := kid_idx hj1
    obtain ⟨d, e2, d1, d2⟩ := kid_idx hj2
    simp only [e1, e2, Int.toNat_natCast] at p1 p2
    obtain ⟨i1, hi1, hu1⟩ := bpos_iff.1 p1
    obtain ⟨i2, hi2, hu2⟩ := bpos_iff.1 p2
    have l1 := leafAt_ok hk hi1
    have l2 := leafAt_ok hk hi2
    have s1 := stays_leaf ht hk hi1
    have s2 := stays_leaf ht hk hi2
    have hcd : c ≠ d := fun e => by
      have h1 := getD_of 0 (kids t v) j1 hj1
      have h2 := getD_of 0 (kids t v) j2 hj2
      have hee : (kids t v)[j1] = (kids t v)[j2] := by rw [← h1, ← h2, e1, e2, e]
      rcases Nat.lt_or_gt_of_ne hjn with hlt | hlt
      · exact List.pairwise_iff_getElem.1 (kids_nodup t v) j1 j2 hj1 hj2 hlt hee
      · exact List.pairwise_iff_getElem.1 (kids_nodup t v) j2 j1 hj2 hj1 hlt hee.symm
    have hcom := com_branch ht l1.1 l2.1 c1 d1 c2 d2 hcd hu1 hu2
    have v1 := (kid_below ht c1 c2 l1.1 hu1).2
    have v2 := (kid_below ht d1 d2 l2.1 hu2).2
    have n1 : v ≠ leafAt keep i1 := fun e => by
      have := mem_kids c1 c2
      rw [e, l1.2] at this; cases this
    have n2 : v ≠ leafAt keep i2 := fun e => by
      have := mem_kids c1 c2
      rw [e, l2.2] at this; cases this
    obtain ⟨x, x1, x2, x3⟩ := child_on hok _ _ (Nat.le_refl _) (left_lt l1.1 s1) ((left_mem ht hk hne l1.1 s1 hs).2 v1) (fun e => n1 (rank_inj hs s1 e))
    obtain ⟨y, y1, y2, y3⟩ := child_on hok _ _ (Nat.le_refl _) (left_lt l2.1 s2) ((left_mem ht hk hne l2.1 s2 hs).2 v2) (fun e => n2 (rank_inj hs s2 e))
    obtain ⟨jx, hx, ex⟩ := kid_of x1 x2
    obtain ⟨jy, hy, ey⟩ := kid_of y1 y2
    rw [show jx = 0 by omega] at ex
    rw [show jy = 0 by omega, ex] at ey
    have exy : x = y := by omega
    subst exy
    obtain ⟨w, hw, hsw, rfl⟩ := left_onto x1
    have m1 := (left_mem ht hk hne l1.1 s1 hsw).1 x3
    have m2 := (left_mem ht hk hne l2.1 s2 hsw).1 y3
    have m3 := com_max ht l1.1 l2.1 m1 m2
    rw [hcom] at m3
    have h5 := ups_le' ht hv m3
    have h6 := lt_of_rank (kid_gt hok x1 x2).1
    omega
  · have hb0 : brTo t keep v (kids t v).length = 0 := by omega
    have hleaf : ∃ i, i < keep.length ∧ leafAt keep i = v := by
      obtain ⟨i, hi, hu⟩ := stays_under hs
      by_cases e : v = leafAt keep i
      · exact ⟨i, hi, e.symm⟩
      · obtain ⟨c, g1, g2, g3⟩ := child_on ht _ _ (Nat.le_refl _) (leafAt_ok hk hi).1 hu e
        obtain ⟨j, hj, hje⟩ := kid_of g1 g2
        have : 0 < brTo t keep v (kids t v).length := by
          rw [brTo, List.countP_pos_iff]
          refine ⟨j, by simpa using hj, ?_⟩
          rw [hje, Int.toNat_natCast]
          exact bpos_iff.2 ⟨i, hi, g3⟩
        omega
    rw [(left_leaf ht hk hne hv hs).2 hleaf] at h1
    cases h1
/-- below each node with leaves that stay there is a node that stays, with the same leaves -/
theorem left_same (ht : okTree t = true) (hk : LeavesIn t keep) : ∀ n v, t.length - v ≤ n → v < t.length → bpos t keep v = true → ∃ w, w < t.length ∧ stays t keep w = true ∧ ∀ i, i < keep.length → (w ∈ ups t (leafAt keep i) ↔ v ∈ ups t (leafAt keep i))
  | n, v, h1, hv, hb => by
    by_cases hs : stays t keep v = true
    · exact ⟨v, hv, hs, fun i hi => Iff.rfl⟩
    · have hb1 : brTo t keep v (kids t v).length = 1 := by
        rw [stays, hb, Bool.true_and, decide_eq_true_eq] at hs
        omega
      have hnl : ∀ i, i < keep.length → v ≠ leafAt keep i := fun i hi e => hs (by rw [e]; exact stays_leaf ht hk hi)
      have hpos : 0 < (List.range (kids t v).length).countP fun i => bpos t keep ((kids t v).getD i 0).toNat := by
        have : brTo t keep v (kids t v).length = (List.range (kids t v).length).countP fun i => bpos t keep ((kids t v).getD i 0).toNat := rfl
        omega
      obtain ⟨j, hj, hbj⟩ := List.countP_pos_iff.1 hpos
      have hj : j < (kids t v).length := by simpa using hj
      obtain ⟨c, e, c1, c2⟩ := kid_idx hj
      rw [e, Int.toNat_natCast] at hbj
      have hgt := (kid_gt ht c1 c2).1
      cases n with
      | zero => omega
      | succ n =>
        obtain ⟨w, w1, w2, w3⟩ := left_same ht hk n c (by omega) c1 hbj
        refine ⟨w, w1, w2, fun i hi => (w3 i hi).trans ?_⟩
        have hl := leafAt_ok hk hi
        constructor
        · intro h; exact (kid_below ht c1 c2 hl.1 h).2
        · intro h
          obtain ⟨d, d1, d2, d3⟩ := child_on ht _ _ (Nat.le_refl _) hl.1 h (hnl i hi)
          by_cases ecd : c = d
          · rw [ecd]; exact d3
          · obtain ⟨jd, hjd, ed⟩ := kid_of d1 d2
            have hjj : j ≠ jd := fun e2 => by
              rw [← e2, e] at ed
              exact ecd (by omega)
            have := two_of_ne (p := fun i => bpos t keep ((kids t v).getD i 0).toNat) hj hjd hjj (by simp only [e, Int.toNat_natCast]; exact hbj) (by simp only [ed, Int.toNat_natCast]; exact bpos_iff.2 ⟨i, hi, d3⟩)
            have e3 : brTo t keep v (kids t v).length = (List.range (kids t v).length).countP fun i => bpos t keep ((kids t v).getD i 0).toNat := rfl
            omega
end

end Go.Cp
end

section
set_option linter.unusedVariables false
set_option linter.unusedSimpArgs false
set_option maxHeartbeats 4000000
set_option maxRecDepth 10000
namespace Go.Cp
open Go Go.Proofs Go.Vx

theorem sorted_ext : ∀ {a b : List Nat}, a.Pairwise (· < ·) → b.Pairwise (· < ·) → (∀ x, x ∈ a ↔ x ∈ b) → a = b
  | [], [], _, _, _ => rfl
  | [], y :: b, _, _, h => by have := (h y).2 (List.mem_cons_self ..); cases this
  | x :: a, [], _, _, h => by have := (h x).1 (List.mem_cons_self ..); cases this
  | x :: a, y :: b, ha, hb, h => by
    obtain ⟨a1, a2⟩ := List.pairwise_cons.1 ha
    obtain ⟨b1, b2⟩ := List.pairwise_cons.1 hb
    have hxy : x = y := by
      rcases List.mem_cons.1 ((h x).1 (List.mem_cons_self ..)) with e | h1
      · exact e
      · rcases List.mem_cons.1 ((h y).2 (List.mem_cons_self ..)) with e | h2
        · exact e.symm
        · have := b1 _ h1
          have := a1 _ h2
          omega
    subst hxy
    rw [sorted_ext a2 b2 fun z => ?_]
    constructor
    · intro hz
      have := a1 _ hz
      rcases List.mem_cons.1 ((h z).1 (List.mem_cons_of_mem _ hz)) with e | h1
      · omega
      · exact h1
    · intro hz
      have := b1 _ hz
      rcases List.mem_cons.1 ((h z).2 (List.mem_cons_of_mem _ hz)) with e | h1
      · omega
      · exact h1
/-- the places of the bits -/
def places (w n : Nat) : List Nat := (List.range n).filter w.testBit
theorem places_succ (w n : Nat) : places w (n + 1) = if w.testBit n = true then places w n ++ [n] else places w n := by
  rw [places, List.range_succ, List.filter_append]
  by_cases h : w.testBit n = true
  · rw [if_pos h]; simp [h, places]
  · rw [if_neg h]; simp [h, places]
theorem places_len (w : Nat) : ∀ n, (places w n).length = cntB w n
  | 0 => rfl
  | n + 1 => by
    rw [places_succ, cntB]
    by_cases h : w.testBit n = true
    · rw [if_pos h, h, List.length_append, places_len w n]; rfl
    · have h : w.testBit n = false := by simpa using h
      rw [if_neg (by simp [h]), h, places_len w n]; rfl
theorem sqz_bit (x w i : Nat) : ∀ n, (sqz x w n).testBit i = (decide (i < cntB w n) && x.testBit ((places w n).getD i 0))
  | 0 => by simp [sqz, cntB]
  | n + 1 => by
    have ih := sqz_bit x w i n
    rw [sqz, places_succ, cntB]
    by_cases h : w.testBit n = true
    · have hc : (w.testBit n).toNat = 1 := by rw [h]; rfl
      rw [if_pos h, if_pos h, Nat.testBit_or, ih, hc]
      have hpl := places_len w n
      have hb : ((x.testBit n).toNat * 2 ^ cntB w n).testBit i = (decide (i = cntB w n) && x.testBit n) := by
        cases x.testBit n with
        | false => simp
        | true =>
          show (1 * 2 ^ cntB w n).testBit i = _
          rw [Nat.one_mul, Nat.testBit_two_pow, Bool.and_true]
          congr 1
          exact propext ⟨Eq.symm, Eq.symm⟩
      rw [hb]
      rcases Nat.lt_trichotomy i (cntB w n) with g | g | g
      · rw [List.getD, List.getD, List.getElem?_append_left (by omega)]
        simp [g, Nat.ne_of_lt g, show i < cntB w n + 1 by omega]
      · rw [List.getD, List.getD, List.getElem?_append_right (by omega), show i - (places w n).length = 0 by omega]
        subst g
        simp
      · simp [show ¬ i < cntB w n by omega, show ¬ i = cntB w n by omega, show ¬ i < cntB w n + 1 by omega]
    · have h : w.testBit n = false := by simpa using h
      rw [if_neg (by simp [h]), if_neg (by simp [h]), h, ih]
      rfl
theorem places_end {w k : Nat} (h : w < 2 ^ k) : ∀ n, places w (k + n) = places w k
  | 0 => rfl
  | n + 1 => by
    have h2 : w < 2 ^ (k + n) := Nat.lt_of_lt_of_le h (Nat.pow_le_pow_right (by decide) (by omega))
    rw [show k + (n + 1) = k + n + 1 by omega, places_succ, if_neg (by rw [Nat.testBit_lt_two_pow h2]; decide), places_end h n]
theorem mem_places {w n k : Nat} : k ∈ places w n ↔ k < n ∧ w.testBit k = true := by
  rw [places, List.mem_filter, List.mem_range]

/-- the leaves that stay, in order -/
def keptTo (t : List Node) (w n : Nat) : List Nat := (places w n).map (leafN t)
def keepTo (t : List Node) (w n : Nat) : List Int := (keptTo t w n).reverse.map fun (u : Nat) => (u : Int)
theorem keepTo_succ (t : List Node) (w n : Nat) : keepTo t w (n + 1) = if w.testBit n = true then (leafN t n : Int) :: keepTo t w n else keepTo t w n := by
  rw [keepTo, keptTo, places_succ]
  by_cases h : w.testBit n = true
  · rw [if_pos h, if_pos h]; simp [keepTo, keptTo]
  · rw [if_neg h, if_neg h]; rfl
theorem keepTo_len (t : List Node) (w n : Nat) : (keepTo t w n).length = cntB w n := by
  rw [keepTo, List.length_map, List.length_reverse, keptTo, List.length_map, places_len]
section
variable {t : List Node} {w : Nat}
theorem kept_len : (keptTo t w (leavesOf t).length).length = (keepTo t w (leavesOf t).length).length := by
  rw [keepTo_len, keptTo, List.length_map, places_len]
theorem keepOf_rev {k : Nat} (h : k < (keepTo t w (leavesOf t).length).length) : (keepTo t w (leavesOf t).length).getD ((keepTo t w (leavesOf t).length).length - 1 - k) 0 = ((keptTo t w (leavesOf t).length).getD k 0 : Int) := by
  have hl := kept_len (t := t) (w := w)
  rw [getD_of 0 _ _ (by omega), getD_of 0 (keptTo t w (leavesOf t).length) k (by omega)]
  simp only [keepTo, List.getElem_map, List.getElem_reverse]
  congr 2
  simp only [List.length_map, List.length_reverse]
  omega
theorem mem_kept {a : Nat} : a ∈ keptTo t w (leavesOf t).length ↔ ∃ k, k < (leavesOf t).length ∧ w.testBit k = true ∧ leafN t k = a := by
  rw [keptTo, List.mem_map]
  constructor
  · rintro ⟨k, hk, e⟩
    have := mem_places.1 hk
    exact ⟨k, this.1, this.2, e⟩
  · rintro ⟨k, h1, h2, e⟩
    exact ⟨k, mem_places.2 ⟨h1, h2⟩, e⟩
theorem mem_keep {a : Nat} : (∃ i, i < (keepTo t w (leavesOf t).length).length ∧ leafAt (keepTo t w (leavesOf t).length) i = a) ↔ a ∈ keptTo t w (leavesOf t).length := by
  constructor
  · rintro ⟨i, hi, e⟩
    rw [leafAt, getD_of 0 _ i hi] at e
    obtain ⟨b, hb, eb⟩ := List.mem_map.1 (show (keepTo t w (leavesOf t).length)[i] ∈ (keptTo t w (leavesOf t).length).reverse.map (fun (u : Nat) => (u : Int)) from List.getElem_mem hi)
    have eb : ((b : Nat) : Int) = (keepTo t w (leavesOf t).length)[i] := eb
    rw [← eb, Int.toNat_natCast] at e
    rw [← e]
    exact List.mem_reverse.1 hb
  · intro h
    have hm : (a : Int) ∈ keepTo t w (leavesOf t).length := List.mem_map.2 ⟨a, List.mem_reverse.2 h, rfl⟩
    obtain ⟨i, hi, e⟩ := List.mem_iff_getElem.1 hm
    exact ⟨i, hi, by rw [leafAt, getD_of 0 _ i hi, e]; rfl⟩
theorem keep_leaves : LeavesIn t (keepTo t w (leavesOf t).length) := fun i hi => by
  obtain ⟨a, ha, e⟩ := List.mem_map.1 (show (keepTo t w (leavesOf t).length)[i] ∈ (keptTo t w (leavesOf t).length).reverse.map (fun (u : Nat) => (u : Int)) from List.getElem_mem hi)
  obtain ⟨k, hk, _, e2⟩ := mem_kept.1 (List.mem_reverse.1 ha)
  have := leafN_at hk
  rw [e2] at this
  exact ⟨a, by rw [getD_of 0 _ i hi]; exact e.symm, this.1, this.2.1⟩
theorem leaf_mono {i j : Nat} (hij : i < j) (hj : j < (leavesOf t).length) : leafN t i < leafN t j := by
  have hp : (leavesOf t).Pairwise (· < ·) := List.Pairwise.map _ (fun a b h => Int.ofNat_lt.2 h) (List.Pairwise.filter _ List.pairwise_lt_range)
  have h1 := (leafN_at (t := t) (i := i) (by omega)).2.2
  have h2 := (leafN_at hj).2.2
  have h3 := List.pairwise_iff_getElem.1 hp i j (by omega) hj hij
  rw [← getD_of 0 _ i (by omega), ← getD_of 0 _ j hj, h1, h2] at h3
  omega
theorem kept_sorted : (keptTo t w (leavesOf t).length).Pairwise (· < ·) := by
  rw [keptTo, List.pairwise_map]
  refine List.Pairwise.imp_of_mem (R := (· < ·)) (fun {a b} ha hb hlt => leaf_mono hlt (mem_places.1 hb).1) ?_
  exact List.Pairwise.filter _ List.pairwise_lt_range
theorem keep_pr : prE t (keepTo t w (leavesOf t).length) = 0 := prE_all fun j hj => by
  obtain ⟨a, h1, h2, h3⟩ := keep_leaves j hj
  have hnd : (keepTo t w (leavesOf t).length).Nodup := by
    show List.Pairwise (fun a b => a ≠ b) ((keptTo t w (leavesOf t).length).reverse.map fun (u : Nat) => (u : Int))
    rw [List.pairwise_map, List.pairwise_reverse]
    exact kept_sorted.imp fun h e => by have := Int.natCast_inj.1 e; omega
  have hni : (keepTo t w (leavesOf t).length).getD j 0 ∉ (keepTo t w (leavesOf t).length).take j := fun hm => by
    rw [getD_of 0 _ j hj] at hm
    obtain ⟨i, hi, e⟩ := List.mem_iff_getElem.1 hm
    rw [List.getElem_take] at e
    have hi' : i < j := by
      rw [List.length_take] at hi; omega
    exact List.pairwise_iff_getElem.1 hnd i j (by omega) hj hi' e
  rw [pchk, if_neg hni, if_pos]
  rw [h1]
  refine ⟨?_, h3⟩
  rw [inB, Bool.and_eq_true, decide_eq_true_eq, decide_eq_true_eq]
  omega
variable (ht : okTree t = true) (hne : 0 < (keepTo t w (leavesOf t).length).length)
include ht hne
/-- the leaves of what is left -/
theorem left_leaves : leavesOf (left t (keepTo t w (leavesOf t).length)) = ((keptTo t w (leavesOf t).length).map (rank (stays t (keepTo t w (leavesOf t).length)))).map fun (u : Nat) => (u : Int) := by
  have hk := keep_leaves (t := t) (w := w)
  have hst : ∀ a, a ∈ keptTo t w (leavesOf t).length → a < t.length ∧ stays t (keepTo t w (leavesOf t).length) a = true := fun a ha => by
    obtain ⟨i, hi, e⟩ := mem_keep.2 ha
    rw [← e]
    exact ⟨(leafAt_ok hk hi).1, stays_leaf ht hk hi⟩
  show ((List.range _).filter _).map _ = _
  congr 1
  refine sorted_ext (List.Pairwise.filter _ List.pairwise_lt_range) ?_ fun x => ?_
  · rw [List.pairwise_map]
    exact List.Pairwise.imp_of_mem (R := (· < ·)) (fun {a b} ha hb hlt => rank_lt (hst a ha).2 hlt) kept_sorted
  · rw [List.mem_filter, List.mem_range, decide_eq_true_eq, List.mem_map]
    constructor
    · rintro ⟨h1, h2⟩
      obtain ⟨v, hv, hs, rfl⟩ := left_onto h1
      exact ⟨v, mem_keep.1 ((left_leaf ht hk hne hv hs).1 h2), rfl⟩
    · rintro ⟨a, ha, rfl⟩
      obtain ⟨h1, h2⟩ := hst a ha
      exact ⟨left_lt h1 h2, (left_leaf ht hk hne h1 h2).2 (mem_keep.2 ha)⟩
theorem left_leafN {k : Nat} (h : k < (keepTo t w (leavesOf t).length).length) : leafN (left t (keepTo t w (leavesOf t).length)) k = rank (stays t (keepTo t w (leavesOf t).length)) ((keptTo t w (leavesOf t).length).getD k 0) := by
  have hl := kept_len (t := t) (w := w)
  rw [leafN, left_leaves ht hne, getD_of 0 _ k (by simp only [List.length_map]; omega), getD_of 0 (keptTo t w (leavesOf t).length) k (by omega)]
  simp
theorem left_count : (leavesOf (left t (keepTo t w (leavesOf t).length))).length = (keepTo t w (leavesOf t).length).length := by
  rw [left_leaves ht hne, List.length_map, List.length_map, kept_len]
theorem left_clade (hw : w < 2 ^ (leavesOf t).length) (hL : (leavesOf t).length ≤ 63) {v : Nat} (hv : v < t.length) (hs : stays t (keepTo t w (leavesOf t).length) v = true) : clade (left t (keepTo t w (leavesOf t).length)) (rank (stays t (keepTo t w (leavesOf t).length)) v) = sqzN (clade t v) w := by
  have hk := keep_leaves (t := t) (w := w)
  have hp := places_end hw (64 - (leavesOf t).length)
  have hc := cntB_end hw (64 - (leavesOf t).length)
  rw [show (leavesOf t).length + (64 - (leavesOf t).length) = 64 by omega] at hp hc
  apply Nat.eq_of_testBit_eq
  intro i
  rw [clade_bit, sqzN, sqz_bit, left_count ht hne, keepTo_len, hc, hp]
  by_cases hi : i < cntB w (leavesOf t).length
  · have hi2 : i < (keepTo t w (leavesOf t).length).length := by rw [keepTo_len]; exact hi
    have hl := kept_len (t := t) (w := w)
    have hpl := places_len w (leavesOf t).length
    rw [left_leafN ht hne hi2]
    have hmp : (places w (leavesOf t).length).getD i 0 ∈ places w (leavesOf t).length := by rw [getD_of 0 _ i (by omega)]; exact List.getElem_mem _
    have e : (keptTo t w (leavesOf t).length).getD i 0 = leafN t ((places w (leavesOf t).length).getD i 0) := by
      rw [getD_of 0 (keptTo t w (leavesOf t).length) i (by omega), getD_of 0 _ i (by omega)]
      simp only [keptTo, List.getElem_map]
    have hma : (keptTo t w (leavesOf t).length).getD i 0 ∈ keptTo t w (leavesOf t).length := by rw [getD_of 0 _ i (by omega)]; exact List.getElem_mem _
    obtain ⟨i0, hi0, e0⟩ := mem_keep.2 hma
    have hl0 := leafAt_ok hk hi0
    have hs0 := stays_leaf ht hk hi0
    rw [e0] at hl0 hs0
    have hmem := left_mem ht hk hne hl0.1 hs0 hs
    rw [clade_bit, decide_eq_true (mem_places.1 hmp).1, decide_eq_true hi, ← e]
    congr 2
    exact propext hmem
  · rw [decide_eq_false hi]; rfl
theorem left_cover (hw : w < 2 ^ (leavesOf t).length) (hL : (leavesOf t).length ≤ 63) {v : Nat} (hv : v < t.length) (h0 : sqzN (clade t v) w ≠ 0) : ∃ r, r < (left t (keepTo t w (leavesOf t).length)).length ∧ clade (left t (keepTo t w (leavesOf t).length)) r = sqzN (clade t v) w := by
  have hk := keep_leaves (t := t) (w := w)
  have hp := places_end hw (64 - (leavesOf t).length)
  have hc := cntB_end hw (64 - (leavesOf t).length)
  rw [show (leavesOf t).length + (64 - (leavesOf t).length) = 64 by omega] at hp hc
  have hpl := places_len w (leavesOf t).length
  have hbit : ∀ v i, (sqzN (clade t v) w).testBit i = (decide (i < cntB w (leavesOf t).length) && decide (v ∈ ups t (leafN t ((places w (leavesOf t).length).getD i 0)))) := fun v i => by
    rw [sqzN, sqz_bit, hc, hp]
    by_cases hi : i < cntB w (leavesOf t).length
    · have hmp : (places w (leavesOf t).length).getD i 0 ∈ places w (leavesOf t).length := by rw [getD_of 0 _ i (by omega)]; exact List.getElem_mem _
      rw [clade_bit, decide_eq_true (mem_places.1 hmp).1, Bool.true_and]
    · rw [decide_eq_false hi]; rfl
  have hin : ∀ i, i < cntB w (leavesOf t).length → ∃ j, j < (keepTo t w (leavesOf t).length).length ∧ leafAt (keepTo t w (leavesOf t).length) j = leafN t ((places w (leavesOf t).length).getD i 0) := fun i hi => by
    have hmp : (places w (leavesOf t).length).getD i 0 ∈ places w (leavesOf t).length := by rw [getD_of 0 _ i (by omega)]; exact List.getElem_mem _
    exact mem_keep.2 (List.mem_map.2 ⟨_, hmp, rfl⟩)
  obtain ⟨i, hi⟩ := Nat.exists_testBit_of_ne_zero h0
  rw [hbit, Bool.and_eq_true, decide_eq_true_eq, decide_eq_true_eq] at hi
  obtain ⟨j, hj, ej⟩ := hin i hi.1
  have hb : bpos t (keepTo t w (leavesOf t).length) v = true := bpos_iff.2 ⟨j, hj, by rw [ej]; exact hi.2⟩
  obtain ⟨x, x1, x2, x3⟩ := left_same ht hk _ v (Nat.le_refl _) hv hb
  refine ⟨_, left_lt x1 x2, ?_⟩
  rw [left_clade ht hne hw hL x1 x2]
  apply Nat.eq_of_testBit_eq
  intro i
  rw [hbit, hbit]
  by_cases hi : i < cntB w (leavesOf t).length
  · obtain ⟨j, hj, ej⟩ := hin i hi
    congr 2
    rw [← ej]
    exact propext (x3 j hj)
  · rw [decide_eq_false hi]; rfl
end

end Go.Cp
end
