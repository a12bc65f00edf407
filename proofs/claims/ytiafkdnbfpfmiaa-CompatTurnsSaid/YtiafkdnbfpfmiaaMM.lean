/-
  Compat, plain: correspondences with the languages in the opposite order. Conditions: none.
-/
import Derived.Test.YtiafkdnbfpfmiaaML

section
set_option linter.unusedVariables false
set_option linter.unusedSimpArgs false
namespace Go.Cp
open Go Go.Proofs Go.Vx

def turn (c : Corr) : Corr := ⟨c.cells.reverse, 2 * c.count⟩
theorem getD_rev {xs : List Cell} {q : Nat} (h : q < xs.length) : xs.reverse.getD q Cell.zero = xs.getD (xs.length - 1 - q) Cell.zero := by
  simp only [List.getD, List.getElem?_reverse h]
theorem fit_rev {a b : List Cell} (h : a.length = b.length) : fitR a.reverse b.reverse = fitR a b := by
  apply Bool.eq_iff_iff.2
  rw [fitR_iff h, fitR_iff (by rw [List.length_reverse, List.length_reverse]; exact h)]
  rw [List.length_reverse]
  refine ⟨fun hh q hq => ?_, fun hh q hq => ?_⟩
  · have := hh (a.length - 1 - q) (by omega)
    rw [getD_rev (by omega), getD_rev (by omega), show a.length - 1 - (a.length - 1 - q) = q by omega, show b.length - 1 - (a.length - 1 - q) = q by omega] at this
    exact this
  · rw [getD_rev hq, getD_rev (by omega), show b.length - 1 - q = a.length - 1 - q by omega]
    exact hh _ (by omega)
theorem join_rev {a b : List Cell} (h : a.length = b.length) : joinR a.reverse b.reverse = (joinR a b).reverse := by
  have h1 : (joinR a b).length = a.length := joinR_len (by omega)
  have h2 : (joinR a.reverse b.reverse).length = a.length := by rw [joinR_len (by rw [List.length_reverse, List.length_reverse]; omega), List.length_reverse]
  refine cells_ext (by rw [List.length_reverse, h1, h2]) fun q hq => ?_
  rw [h2] at hq
  rw [getD_rev (by omega), h1, joinR, zipF_getD joinQ (by rw [List.length_reverse]; omega) (by rw [List.length_reverse]; omega), getD_rev hq, getD_rev (by omega), joinR, zipF_getD joinQ (by omega) (by omega), show b.length - 1 - q = a.length - 1 - q by omega]

section
variable {l : List Corr} {m : Nat} (hF : Fine l m)
include hF
omit hF in
theorem turn_at {i : Nat} (hi : i < l.length) : cellsAt (l.map turn) i = (cellsAt l i).reverse := by
  simp only [cellsAt, List.getD, List.getElem?_map, List.getElem?_eq_getElem hi, Option.map_some, Option.getD_some, turn]
theorem turn_fit {i j : Nat} (hi : i < l.length) (hj : j < l.length) : fitR (cellsAt (l.map turn) i) (cellsAt (l.map turn) j) = fitR (cellsAt l i) (cellsAt l j) := by
  rw [turn_at hi, turn_at hj, fit_rev (by rw [hF.at_len hi, hF.at_len hj])]
theorem turn_good {ls : List Int} {i k : Nat} (hi : i < l.length) : ∀ n, n ≤ l.length → goodTo (l.map turn) ls i k n = goodTo l ls i k n
  | 0, _ => rfl
  | n + 1, hn => by rw [goodTo_succ, goodTo_succ, turn_good hi n (by omega), badR, badR, turn_fit hF hi (by omega)]
theorem turn_ref : ∀ i, i ≤ l.length → refAt (l.map turn) i = refAt l i
  | 0, _ => rfl
  | i + 1, hi => by
    rw [refAt, refAt, turn_ref i (by omega)]
    congr 3
    refine scan_congr fun k _ hk => ?_
    rw [fitsR, fitsR, turn_good hF (by omega) i (by omega)]
theorem turn_allowed {ls : List Int} (h : ls.length ≤ l.length) : allowedR (l.map turn) ls = allowedR l ls := by
  apply Bool.eq_iff_iff.2
  rw [allowedR, allowedR, all_range, all_range]
  have e : ∀ a, a < ls.length → rowOK (l.map turn) ls a = rowOK l ls a := fun a ha => by
    apply Bool.eq_iff_iff.2
    rw [rowOK, rowOK, all_range, all_range]
    have e2 : ∀ j, j < a → clash (l.map turn) ls a j = clash l ls a j := fun j hj => by rw [clash, clash, turn_fit hF (by omega) (by omega)]
    exact ⟨fun h j hj => by rw [← e2 j hj]; exact h j hj, fun h j hj => by rw [e2 j hj]; exact h j hj⟩
  exact ⟨fun h a ha => by rw [← e a ha]; exact h a ha, fun h a ha => by rw [e a ha]; exact h a ha⟩
theorem turn_best : ∀ (r : Nat) (ls : List Int) (found : Option (List Int)), ls.length + r = l.length → bestR (l.map turn) r ls found = bestR l r ls found
  | 0, ls, found, hr => by rw [bestR, bestR, turn_allowed hF (by omega)]
  | r + 1, ls, found, hr => by
    rw [bestR_succ, bestR_succ, turn_allowed hF (by omega)]
    have : ∀ k, bestFold (l.map turn) r ls found k = bestFold l r ls found k := by
      intro k
      induction k with
      | zero => rfl
      | succ k ih =>
        rw [bestFold_succ, bestFold_succ, ih]
        split
        · exact turn_best r _ _ (by rw [List.length_append]; simp only [List.length_cons, List.length_nil]; omega)
        · rfl
    rw [this]
theorem turn_lbl : lblR (l.map turn) = lblR l := by
  rw [lblR, lblR, List.length_map, turn_best hF _ _ _ (by simp)]
theorem turn_row {ls : List Int} {k : Nat} (hk : k < l.length) : ∀ i, i ≤ l.length → rowTo' (l.map turn) ls k i = turn (rowTo' l ls k i) ∧ (rowTo' l ls k i).cells.length = m
  | 0, _ => by
    refine ⟨?_, hF.at_len hk⟩
    simp only [rowTo', List.range_zero, List.foldl_nil, List.getD, List.getElem?_map, List.getElem?_eq_getElem hk, Option.map_some, Option.getD_some]
  | i + 1, hi => by
    obtain ⟨h1, h2⟩ := turn_row hk i (by omega) (ls := ls)
    have hi' : i < l.length := by omega
    have hlen := hF.at_len hi'
    rw [cellsAt] at hlen
    have e : (l.map turn).getD i Corr.zero = turn (l.getD i Corr.zero) := by
      simp only [List.getD, List.getElem?_map, List.getElem?_eq_getElem hi', Option.map_some, Option.getD_some]
    rw [rowTo'_succ, rowTo'_succ, h1, e]
    split
    · refine ⟨?_, by simp only [addR]; rw [joinR_len (by omega)]; exact h2⟩
      simp only [addR, turn]
      rw [join_rev (by omega), Int.mul_add]
    · exact ⟨rfl, h2⟩
theorem turn_out {ls : List Int} : ∀ k, k ≤ l.length → outR (l.map turn) ls k = (outR l ls k).map turn
  | 0, _ => rfl
  | k + 1, hk => by
    rw [outR_succ, outR_succ, turn_out k (by omega), List.map_append, List.length_map, (turn_row hF (by omega) l.length (Nat.le_refl _)).1]
    split <;> rfl
theorem out_len {ls : List Int} {c : Corr} (hc : c ∈ outR l ls l.length) : c.cells.length = m := by
  rw [outR, List.mem_filterMap] at hc
  obtain ⟨k, hk, he⟩ := hc
  rw [List.mem_range] at hk
  split at he
  · injection he with he
    rw [← he]
    exact (turn_row hF hk l.length (Nat.le_refl _)).2
  · cases he
end
theorem turn_list {l : List Nat} : listC ((madeC l).map turn) = true := by
  rw [listC, List.all_eq_true]
  intro c hc
  obtain ⟨d, hd, rfl⟩ := List.mem_map.1 hc
  obtain ⟨h1, h2, h3, h4⟩ := made_mem hd
  have hh : headLen ((madeC l).map turn) = 5 := by
    have hp : 0 < ((madeC l).map turn).length := List.length_pos_of_mem hc
    obtain ⟨e, he, hee⟩ := List.mem_map.1 (getD_mem (z := Corr.zero) hp)
    rw [headLen, ← hee]
    simp only [turn, List.length_reverse]
    exact (made_mem he).2.1
  simp only [corrB, turn, List.all_reverse, h1, List.length_reverse, h2, hh, Bool.true_and, Bool.and_eq_true, Bool.not_eq_true', decide_eq_false_iff_not, decide_true, and_true]
  exact ⟨decide_eq_false (by omega), decide_eq_false (by omega)⟩
theorem turn_in {l : List Nat} : ∀ c ∈ (madeC l).map turn, c.In := fun c hc x hx => by
  obtain ⟨d, hd, rfl⟩ := List.mem_map.1 hc
  exact made_in d hd x (by simpa [turn] using hx)

end Go.Cp
end
