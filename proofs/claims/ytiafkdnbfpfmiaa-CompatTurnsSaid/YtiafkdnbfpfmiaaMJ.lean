/-
  Compat, plain: fits and joins; Greedy is the document's. Conditions: none.
  Compat, plain: Fewest is the document's, and has the fewest classes. Conditions: none.
  Compat, plain: Patterns and Predict are the document's. Conditions: none.
-/
import Derived.Test.YtiafkdnbfpfmiaaMI
import Derived.Test.YtiafkdnbfpfmiaaMG
import Derived.Test.YtiafkdnbfpfmiaaMH

section
set_option linter.unusedVariables false
set_option linter.unusedSimpArgs false
namespace Go.Cp
open Go Go.Proofs Go.Vx

theorem fitQ_symm (x y : Cell) : fitQ (x, y) = fitQ (y, x) := by
  simp only [fitQ]
  rw [show decide (x = y) = decide (y = x) from by congr 1; exact propext ⟨Eq.symm, Eq.symm⟩, Bool.or_comm (decide (x.kind = 0))]
theorem fitR_symm : ∀ xs ys : List Cell, fitR xs ys = fitR ys xs
  | [], [] => rfl
  | [], y :: ys => rfl
  | x :: xs, [] => rfl
  | x :: xs, y :: ys => by
    have ih := fitR_symm xs ys
    simp only [fitR, List.zip_cons_cons, List.all_cons] at ih ⊢
    rw [fitQ_symm, ih]
theorem fitQ_join (x y z : Cell) (h : fitQ (x, y) = true) : fitQ (joinQ x y, z) = (fitQ (x, z) && fitQ (y, z)) := by
  by_cases hx : x.kind = 0
  · have e : joinQ x y = y := if_pos hx
    rw [e]
    simp [fitQ, hx]
  · have e : joinQ x y = x := if_neg hx
    rw [e]
    simp only [fitQ, Bool.or_eq_true, decide_eq_true_eq] at h
    rcases h with h | h | h
    · subst h; simp
    · exact absurd h hx
    · simp [fitQ, h]
theorem fitR_join : ∀ {xs ys zs : List Cell}, xs.length = ys.length → zs.length = ys.length → fitR xs ys = true → fitR (joinR xs ys) zs = (fitR xs zs && fitR ys zs)
  | [], [], [], _, _, _ => rfl
  | x :: xs, y :: ys, z :: zs, h1, h2, hf => by
    simp only [fitR, List.zip_cons_cons, List.all_cons, Bool.and_eq_true] at hf
    have ih := fitR_join (xs := xs) (ys := ys) (zs := zs) (by simpa using h1) (by simpa using h2) hf.2
    simp only [fitR, joinR, List.zipWith_cons_cons, List.zip_cons_cons, List.all_cons] at ih ⊢
    rw [ih, fitQ_join x y z hf.1]
    cases fitQ (x, z) <;> cases fitQ (y, z) <;> simp
  | [], y :: _, _, h, _, _ => by simp at h
  | x :: _, [], _, h, _, _ => by simp at h
  | [], [], z :: _, _, h, _ => by simp at h
  | x :: _, y :: _, [], _, h, _ => by simp at h
theorem validC_join {x y : Cell} (hx : validC x = true) (hy : validC y = true) : validC (joinQ x y) = true := by
  unfold joinQ; split <;> assumption
theorem valid_join : ∀ {xs ys : List Cell}, xs.all validC = true → ys.all validC = true → (joinR xs ys).all validC = true
  | [], _, _, _ => by simp [joinR]
  | x :: xs, [], _, _ => by simp [joinR]
  | x :: xs, y :: ys, hx, hy => by
    simp only [List.all_cons, Bool.and_eq_true] at hx hy
    have ih := valid_join hx.2 hy.2
    simp only [joinR, List.zipWith_cons_cons, List.all_cons, Bool.and_eq_true] at ih ⊢
    exact ⟨validC_join hx.1 hy.1, ih⟩

/-- valid correspondences of the same length -/
structure Fine (l : List Corr) (m : Nat) : Prop where
  len : ∀ c ∈ l, c.cells.length = m
  ok : ∀ c ∈ l, c.cells.all validC = true
theorem Fine.of {l : List Corr} (h : listC l = true) : Fine l (headLen l) := by
  refine ⟨list_lens h, fun c hc => ?_⟩
  have := List.all_eq_true.1 h c hc
  simp only [corrB, Bool.and_eq_true] at this
  exact this.1
theorem Fine.at_len {l : List Corr} {m i : Nat} (h : Fine l m) (hi : i < l.length) : (cellsAt l i).length = m := h.len _ (getD_mem hi)
theorem Fine.at_ok {l : List Corr} {m i : Nat} (h : Fine l m) (hi : i < l.length) : (cellsAt l i).all validC = true := h.ok _ (getD_mem hi)

theorem all_range {n : Nat} {p : Nat → Bool} : (List.range n).all p = true ↔ ∀ j, j < n → p j = true := by
  rw [List.all_eq_true]
  exact ⟨fun h j hj => h j (List.mem_range.2 hj), fun h j hj => h j (List.mem_range.1 hj)⟩

/-- what stands in the joins: of each class of the first i labels the join -/
structure Joins (l : List Corr) (m i : Nat) (ls : List Int) (js : List (List Cell)) : Prop where
  len : js.length = l.length
  at' : ∀ k, k < i → ls.getD k 0 = (k : Int) → (js.getD k []).length = m ∧ (js.getD k []).all validC = true ∧
    ∀ zs : List Cell, zs.length = m → (fitR (js.getD k []) zs = true ↔ ∀ j, j < i → ls.getD j 0 = (k : Int) → fitR (cellsAt l j) zs = true)

section
variable {l : List Corr} {m i : Nat} {ls : List Int} {js : List (List Cell)}
theorem Joins.holds (h : Joins l m i ls js) (hF : Fine l m) (hi : i < l.length) {k : Nat} (hk : k < i) : Go.Cp.holds ls js (cellsAt l i) k = (decide (ls.getD k 0 = (k : Int)) && goodTo l ls i k i) := by
  unfold Go.Cp.holds
  cases hd : decide (ls.getD k 0 = (k : Int)) with
  | false => rfl
  | true =>
    obtain ⟨h1, h2, h3⟩ := h.at' k hk (by simpa using hd)
    rw [Bool.true_and, Bool.true_and, fit_same h2 (hF.at_ok hi)]
    apply Bool.eq_iff_iff.2
    rw [h3 _ (hF.at_len hi), goodTo, all_range]
    refine ⟨fun hh j hj => ?_, fun hh j hj hl => ?_⟩
    · simp only [badR]
      by_cases hl : ls.getD j 0 = (k : Int)
      · rw [fitR_symm, hh j hj hl]; simp
      · rw [decide_eq_false hl]; rfl
    · have := hh j hj
      simp only [badR, decide_eq_true hl, Bool.true_and, Bool.not_not] at this
      rw [fitR_symm]; exact this
/-- the next one joins a class -/
theorem Joins.join (h : Joins l m i ls js) (hF : Fine l m) (hi : i < l.length) {k : Nat} (hk : k < i) (hd : ls.getD k 0 = (k : Int)) (hfit : fitC (js.getD k []) (cellsAt l i) = true) {ls' : List Int} (h1 : ∀ j, j < i → ls'.getD j 0 = ls.getD j 0) (h2 : ls'.getD i 0 = (k : Int)) :
    Joins l m (i + 1) ls' (js.set k (joinC (js.getD k []) (cellsAt l i))) := by
  obtain ⟨a1, a2, a3⟩ := h.at' k hk hd
  have hlen := h.len
  have hf : fitR (js.getD k []) (cellsAt l i) = true := by rw [← fit_same a2 (hF.at_ok hi)]; exact hfit
  have hx := hF.at_len hi
  refine ⟨by rw [List.length_set]; exact hlen, fun k' hk' hd' => ?_⟩
  rw [getD_set]
  by_cases hkk : k = k'
  · subst hkk
    rw [if_pos ⟨rfl, by omega⟩, join_same a2]
    refine ⟨by rw [joinR_len (by omega)]; exact a1, valid_join a2 (hF.at_ok hi), fun zs hz => ?_⟩
    rw [fitR_join (by omega) (by omega) hf, Bool.and_eq_true, a3 zs hz]
    refine ⟨fun hh j hj hl => ?_, fun hh => ⟨fun j hj hl => hh j (by omega) (by rw [h1 j hj]; exact hl), hh i (Nat.lt_succ_self i) h2⟩⟩
    rcases Nat.lt_succ_iff_lt_or_eq.1 hj with hj | hj
    · exact hh.1 j hj (by rw [← h1 j hj]; exact hl)
    · subst hj; exact hh.2
  · rw [if_neg (fun hh => hkk hh.1)]
    have hne : k' ≠ i := fun e => by
      rw [e, h2] at hd'
      have : (k : Int) = (i : Int) := hd'
      omega
    have hk'' : k' < i := by omega
    obtain ⟨b1, b2, b3⟩ := h.at' k' hk'' (by rw [← h1 k' hk'']; exact hd')
    refine ⟨b1, b2, fun zs hz => ?_⟩
    rw [b3 zs hz]
    refine ⟨fun hh j hj hl => ?_, fun hh j hj hl => hh j (by omega) (by rw [h1 j hj]; exact hl)⟩
    rcases Nat.lt_succ_iff_lt_or_eq.1 hj with hj | hj
    · exact hh j hj (by rw [← h1 j hj]; exact hl)
    · subst hj
      rw [h2] at hl
      exact absurd (by omega : k = k') hkk
/-- the next one is a class of its own -/
theorem Joins.new (h : Joins l m i ls js) (hF : Fine l m) (hi : i < l.length) (hb : ∀ j, j < i → ls.getD j 0 ≤ j) {ls' : List Int} (h1 : ∀ j, j < i → ls'.getD j 0 = ls.getD j 0) (h2 : ls'.getD i 0 = (i : Int)) :
    Joins l m (i + 1) ls' (js.set i (cellsAt l i)) := by
  have hlen := h.len
  refine ⟨by rw [List.length_set]; exact hlen, fun k' hk' hd' => ?_⟩
  rw [getD_set]
  by_cases hkk : i = k'
  · subst hkk
    rw [if_pos ⟨rfl, by omega⟩]
    refine ⟨hF.at_len hi, hF.at_ok hi, fun zs hz => ⟨fun hh j hj hl => ?_, fun hh => hh i hk' h2⟩⟩
    rcases Nat.lt_succ_iff_lt_or_eq.1 hj with hj | hj
    · have := hb j hj
      rw [h1 j hj] at hl
      omega
    · subst hj; exact hh
  · rw [if_neg (fun hh => hkk hh.1)]
    have hk'' : k' < i := by omega
    obtain ⟨b1, b2, b3⟩ := h.at' k' hk'' (by rw [← h1 k' hk'']; exact hd')
    refine ⟨b1, b2, fun zs hz => ?_⟩
    rw [b3 zs hz]
    refine ⟨fun hh j hj hl => ?_, fun hh j hj hl => hh j (by omega) (by rw [h1 j hj]; exact hl)⟩
    rcases Nat.lt_succ_iff_lt_or_eq.1 hj with hj | hj
    · exact hh j hj (by rw [← h1 j hj]; exact hl)
    · subst hj
      rw [h2] at hl
      exact absurd (by omega : j = k') hkk
theorem Joins.congr (h : Joins l m i ls js) {ls' : List Int} (h1 : ∀ j, j < i → ls'.getD j 0 = ls.getD j 0) : Joins l m i ls' js := by
  refine ⟨h.len, fun k hk hd => ?_⟩
  obtain ⟨a1, a2, a3⟩ := h.at' k hk (by rw [← h1 k hk]; exact hd)
  refine ⟨a1, a2, fun zs hz => ?_⟩
  rw [a3 zs hz]
  exact ⟨fun hh j hj hl => hh j hj (by rw [← h1 j hj]; exact hl), fun hh j hj hl => hh j hj (by rw [h1 j hj]; exact hl)⟩
end

theorem scan_congr {p q : Nat → Bool} : ∀ {n a : Nat}, (∀ k, a ≤ k → k < a + n → p k = q k) → scan p n a = scan q n a
  | 0, _, _ => rfl
  | n + 1, a, h => by
    have ih := scan_congr (p := p) (q := q) (n := n) (a := a + 1) fun k h1 h2 => h k (by omega) (by omega)
    simp only [scan]
    rw [h a (Nat.le_refl _) (by omega), ih]
theorem scan_true {p : Nat → Bool} : ∀ {n a : Nat}, scan p n a < a + n → p (scan p n a) = true
  | 0, a, h => by simp [scan] at h
  | n + 1, a, h => by
    simp only [scan] at h ⊢
    cases hp : p a with
    | true => simpa using hp
    | false =>
      rw [hp] at h
      simp only [cond_false] at h ⊢
      exact scan_true (by omega)

theorem refAt_le (l : List Corr) : ∀ i j, j < i → (refAt l i).getD j 0 ≤ j
  | 0, j, h => by omega
  | i + 1, j, h => by
    have hll := refAt_len l i
    rw [refAt]
    rcases Nat.lt_succ_iff_lt_or_eq.1 h with h | h
    · rw [getD_front _ _ _ (by omega)]
      exact refAt_le l i j h
    · subst h
      rw [getD_last _ _ _ hll.symm]
      have := (scan_le (fitsR l (refAt l j) j) j 0).2
      rw [refK]
      omega

/-- Greedy is the document's -/
theorem greedy_joins {l : List Corr} {m : Nat} (hF : Fine l m) : ∀ i, i ≤ l.length → (∀ j, j < i → (greedyAt l i).1.getD j 0 = (refAt l i).getD j 0) ∧ Joins l m i (refAt l i) (greedyAt l i).2
  | 0, _ => ⟨fun j h => by omega, ⟨(greedyAt_len l 0).2, fun k hk => by omega⟩⟩
  | i + 1, hi => by
    obtain ⟨ih, hJ⟩ := greedy_joins hF i (by omega)
    have hi' : i < l.length := by omega
    have hlen := greedyAt_len l i
    have hll := refAt_len l i
    have hJ' : Joins l m i (greedyAt l i).1 (greedyAt l i).2 := hJ.congr ih
    have hsame : greedyK (greedyAt l i) (cellsAt l i) i = refK l (refAt l i) i := by
      refine scan_congr fun k _ hk => ?_
      rw [hJ'.holds hF hi' (by omega), fitsR, ih k (by omega)]
      congr 1
      simp only [goodTo]
      apply Bool.eq_iff_iff.2
      rw [all_range, all_range]
      exact ⟨fun hh j hj => by have := hh j hj; rwa [badR, ih j hj] at this, fun hh j hj => by have := hh j hj; rwa [badR, ← ih j hj] at this⟩
    obtain ⟨K, hK⟩ : ∃ K, refK l (refAt l i) i = K := ⟨_, rfl⟩
    have hKle : K ≤ i := by
      have := (scan_le (fitsR l (refAt l i) i) i 0).2
      rw [← hK, refK]; omega
    have e1 : (greedyAt l (i + 1)) = ((greedyAt l i).1.set i (K : Int), (greedyAt l i).2.set K (if K < i then joinC ((greedyAt l i).2.getD K []) (cellsAt l i) else cellsAt l i)) := by
      rw [greedyAt_succ, greedyStep, hsame, hK]
    have e2 : refAt l (i + 1) = refAt l i ++ [(K : Int)] := by rw [refAt, hK]
    have hfront : ∀ j, j < i → (refAt l i ++ [(K : Int)]).getD j 0 = (refAt l i).getD j 0 := fun j hj => getD_front _ _ _ (by omega)
    have hlast : (refAt l i ++ [(K : Int)]).getD i 0 = (K : Int) := getD_last _ _ _ hll.symm
    rw [e1, e2]
    refine ⟨fun j hj => ?_, ?_⟩
    · simp only [getD_set]
      rcases Nat.lt_succ_iff_lt_or_eq.1 hj with hj | hj
      · rw [if_neg (fun hh => by omega), hfront j hj, ih j hj]
      · subst hj
        rw [if_pos ⟨rfl, by omega⟩, hlast]
    · by_cases hKi : K < i
      · rw [if_pos hKi]
        have ht : fitsR l (refAt l i) i K = true := by
          have := scan_true (p := fitsR l (refAt l i) i) (n := i) (a := 0) (by
            have h2 : scan (fitsR l (refAt l i) i) i 0 = K := hK
            rw [h2]; omega)
          have h2 : scan (fitsR l (refAt l i) i) i 0 = K := hK
          rwa [h2] at this
        have hh : holds (refAt l i) (greedyAt l i).2 (cellsAt l i) K = true := by
          rw [hJ.holds hF hi' hKi]; exact ht
        simp only [holds, Bool.and_eq_true, decide_eq_true_eq] at hh
        exact hJ.join hF hi' hKi hh.1 hh.2 hfront hlast
      · have hKe : K = i := by omega
        subst hKe
        rw [if_neg (Nat.lt_irrefl K)]
        exact hJ.new hF hi' (fun j hj => refAt_le l K j hj) hfront hlast

theorem list_ext {xs ys : List Int} (h : xs.length = ys.length) (hj : ∀ j, j < xs.length → xs.getD j 0 = ys.getD j 0) : xs = ys := by
  apply List.ext_getElem? ; intro j
  by_cases hlt : j < xs.length
  · have := hj j hlt
    simp only [List.getD, List.getElem?_eq_getElem hlt, List.getElem?_eq_getElem (show j < ys.length by omega), Option.getD_some] at this
    rw [List.getElem?_eq_getElem hlt, List.getElem?_eq_getElem (by omega), this]
  · rw [List.getElem?_eq_none (by omega), List.getElem?_eq_none (by omega)]
theorem greedy_same {l : List Corr} (h : listC l = true) : (greedyAt l l.length).1 = refAt l l.length :=
  list_ext (by rw [(greedyAt_len l _).1, refAt_len]) fun j hj => (greedy_joins (Fine.of h) l.length (Nat.le_refl _)).1 j (by rwa [(greedyAt_len l _).1] at hj)

end Go.Cp
end

section
set_option linter.unusedVariables false
set_option linter.unusedSimpArgs false
namespace Go.Cp
open Go Go.Proofs Go.Vx

def Can (ls : List Int) : Prop := ∀ j, j < ls.length → ∃ k : Nat, ls.getD j 0 = (k : Int) ∧ k ≤ j ∧ ls.getD k 0 = (k : Int)
theorem canon_iff {ls : List Int} : canonC ls = true ↔ Can ls := by
  rw [canonC, all_range]
  refine ⟨fun h j hj => ?_, fun h j hj => ?_⟩
  · have := h j hj
    simp only [canonAt, Bool.and_eq_true, Bool.not_eq_true', decide_eq_false_iff_not, decide_eq_true_eq] at this
    obtain ⟨k, hk⟩ := Int.eq_ofNat_of_zero_le (show 0 ≤ ls.getD j 0 by omega)
    rw [hk, Int.toNat_natCast] at this
    exact ⟨k, hk, by omega, this.2.2⟩
  · obtain ⟨k, h1, h2, h3⟩ := h j hj
    simp only [canonAt, h1, Int.toNat_natCast, Bool.and_eq_true, Bool.not_eq_true', decide_eq_false_iff_not, decide_eq_true_eq]
    exact ⟨by omega, by omega, h3⟩
theorem Can.le {ls : List Int} (h : Can ls) : ∀ j, j < ls.length → ls.getD j 0 ≤ j := fun j hj => by
  obtain ⟨k, h1, h2, _⟩ := h j hj
  omega
theorem Can.snoc {ls : List Int} (h : Can ls) {k : Nat} (hk : k = ls.length ∨ (k < ls.length ∧ ls.getD k 0 = (k : Int))) : Can (ls ++ [(k : Int)]) := by
  intro j hj
  rw [List.length_append] at hj
  simp only [List.length_cons, List.length_nil] at hj
  by_cases hlt : j < ls.length
  · obtain ⟨q, h1, h2, h3⟩ := h j hlt
    exact ⟨q, by rw [getD_front _ _ _ hlt, h1], h2, by rw [getD_front _ _ _ (by omega), h3]⟩
  · have hje : j = ls.length := by omega
    refine ⟨k, getD_last _ _ _ hje, ?_, ?_⟩
    · rcases hk with hk | hk <;> omega
    · rcases hk with hk | hk
      · exact getD_last _ _ _ hk
      · rw [getD_front _ _ _ hk.1, hk.2]

theorem allowed_snoc (l : List Corr) (ls : List Int) (k : Nat) : allowedR l (ls ++ [(k : Int)]) = (allowedR l ls && goodTo l ls ls.length k ls.length) := by
  have hln : (ls ++ [(k : Int)]).length = ls.length + 1 := by rw [List.length_append]; rfl
  apply Bool.eq_iff_iff.2
  rw [Bool.and_eq_true, allowedR, allowedR, goodTo, all_range, all_range, all_range, hln]
  have hcl : ∀ a j, a < ls.length → j < ls.length → clash l (ls ++ [(k : Int)]) a j = clash l ls a j := fun a j ha hj => by
    rw [clash, clash, getD_front _ _ _ ha, getD_front _ _ _ hj]
  have hrow : ∀ a, a < ls.length → rowOK l (ls ++ [(k : Int)]) a = rowOK l ls a := fun a ha => by
    apply Bool.eq_iff_iff.2
    rw [rowOK, rowOK, all_range, all_range]
    exact ⟨fun h j hj => by rw [← hcl a j ha (by omega)]; exact h j hj, fun h j hj => by rw [hcl a j ha (by omega)]; exact h j hj⟩
  have hlast : rowOK l (ls ++ [(k : Int)]) ls.length = true ↔ ∀ j, j < ls.length → (!badR l ls ls.length k j) = true := by
    rw [rowOK, all_range]
    have e : ∀ j, j < ls.length → clash l (ls ++ [(k : Int)]) ls.length j = badR l ls ls.length k j := fun j hj => by
      rw [clash, badR, getD_last _ _ _ rfl, getD_front _ _ _ hj]
      congr 2
      exact propext ⟨Eq.symm, Eq.symm⟩
    exact ⟨fun h j hj => by rw [← e j hj]; exact h j hj, fun h j hj => by rw [e j hj]; exact h j hj⟩
  refine ⟨fun h => ⟨fun a ha => by rw [← hrow a ha]; exact h a (by omega), hlast.1 (h _ (Nat.lt_succ_self _))⟩, fun h a ha => ?_⟩
  rcases Nat.lt_succ_iff_lt_or_eq.1 ha with ha | ha
  · rw [hrow a ha]; exact h.1 a ha
  · subst ha; exact hlast.2 h.2
theorem good_new {l : List Corr} {ls : List Int} (h : Can ls) : goodTo l ls ls.length ls.length ls.length = true := by
  rw [goodTo, all_range]
  intro j hj
  have := h.le j hj
  rw [badR, decide_eq_false (by omega)]; rfl
theorem many_snoc (ls : List Int) (k : Nat) : manyC (ls ++ [(k : Int)]) (ls ++ [(k : Int)]).length = manyC ls ls.length + if k = ls.length then 1 else 0 := by
  have hln : (ls ++ [(k : Int)]).length = ls.length + 1 := by rw [List.length_append]; rfl
  rw [hln, manyC_succ, getD_last _ _ _ rfl]
  have e : ∀ n, n ≤ ls.length → manyC (ls ++ [(k : Int)]) n = manyC ls n := by
    intro n
    induction n with
    | zero => intro _; rfl
    | succ n ih =>
      intro hn
      rw [manyC_succ, manyC_succ, ih (by omega), getD_front _ _ _ (by omega)]
  rw [e _ (Nat.le_refl _)]
  by_cases hk : k = ls.length
  · rw [if_pos hk, if_pos (by omega)]
  · rw [if_neg hk, if_neg (by omega)]

theorem best_prune (l : List Corr) : ∀ (r : Nat) (ls f : List Int), manyC f f.length ≤ manyC ls ls.length → bestR l r ls (some f) = some f
  | 0, ls, f, h => by
    rw [bestR]
    split
    · rw [if_neg (by simp only [better, decide_eq_true_eq]; omega)]
    · rfl
  | r + 1, ls, f, h => by
    rw [bestR_succ]
    split
    · have : ∀ k, bestFold l r ls (some f) k = some f := by
        intro k
        induction k with
        | zero => rfl
        | succ k ih =>
          rw [bestFold_succ, ih]
          split
          · exact best_prune l r _ f (by rw [many_snoc]; omega)
          · rfl
      exact this _
    · rfl
theorem best_some (l : List Corr) : ∀ (r : Nat) (ls : List Int) (found : Option (List Int)), Can ls → allowedR l ls = true → bestR l r ls found ≠ none
  | 0, ls, found, hc, ha => by
    rw [bestR, if_pos ha]
    cases found with
    | none => simp [better]
    | some f => split <;> simp
  | r + 1, ls, found, hc, ha => by
    rw [bestR_succ, if_pos ha, bestFold_succ, if_pos (.inl rfl)]
    exact best_some l r _ _ (hc.snoc (.inl rfl)) (by rw [allowed_snoc, ha, good_new hc]; rfl)

def Rel (n : Nat) (found : Option (List Int)) (fd : List Int) (be : Nat) : Prop :=
  match found with
  | none => be = n + 1 ∧ fd = []
  | some f => fd = f ∧ be = manyC f f.length
theorem Joins.same {l : List Corr} {m i : Nat} {ls : List Int} {js js' : List (List Cell)} (h : Joins l m i ls js) (hl : js'.length = l.length) (he : ∀ k, k < i → ls.getD k 0 = (k : Int) → js'.getD k [] = js.getD k []) : Joins l m i ls js' :=
  ⟨hl, fun k hk hd => by rw [he k hk hd]; exact h.at' k hk hd⟩
theorem many_le (ls : List Int) : manyC ls ls.length ≤ ls.length := manyC_le _ _

structure After (l : List Corr) (i : Nat) (ls : List Int) (found : Option (List Int)) (st st' : PSt) : Prop where
  rel : Rel l.length found st'.fd st'.be
  len : st'.lb.length = l.length
  lb : ∀ j, j < i → st'.lb.getD j 0 = ls.getD j 0
  jl : st'.js.length = l.length
  js : ∀ k, k < i → ls.getD k 0 = (k : Int) → st'.js.getD k [] = st.js.getD k []

theorem put_best {l : List Corr} {m : Nat} (hF : Fine l m) : ∀ (r i many : Nat) (st : PSt) (ls : List Int) (found : Option (List Int)), i + r = l.length → ls.length = i → Can ls → allowedR l ls = true → manyC ls ls.length = many →
    st.lb.length = l.length → (∀ j, j < i → st.lb.getD j 0 = ls.getD j 0) → Joins l m i ls st.js → Rel l.length found st.fd st.be → After l i ls (bestR l r ls found) st (putC l r i many st) := by
  intro r
  induction r with
  | zero =>
    intro i many st ls found hr hl hc ha hm hlb hlbe hJ hrel
    have hjl := hJ.len
    rw [putC, bestR, if_pos ha]
    have hmle := many_le ls
    by_cases hp : st.be ≤ many
    · rw [if_pos hp]
      have he : (if better ls found then some ls else found) = found := by
        cases found with
        | none => simp only [Rel] at hrel; omega
        | some f =>
          simp only [Rel] at hrel
          rw [if_neg (by simp only [better, decide_eq_true_eq]; omega)]
      rw [he]
      exact ⟨hrel, hlb, hlbe, hjl, fun _ _ _ => rfl⟩
    · rw [if_neg hp]
      have he : (if better ls found then some ls else found) = some ls := by
        cases found with
        | none => rfl
        | some f =>
          simp only [Rel] at hrel
          rw [if_pos (by simp only [better, decide_eq_true_eq]; omega)]
      rw [he]
      have hls : st.lb = ls := list_ext (by omega) fun j hj => hlbe j (by omega)
      exact ⟨⟨hls, hm.symm⟩, hlb, hlbe, hjl, fun _ _ _ => rfl⟩
  | succ r ih =>
    intro i many st ls found hr hl hc ha hm hlb hlbe hJ hrel
    have hjl := hJ.len
    have hmle := many_le ls
    have hil : i < l.length := by omega
    rw [putC_succ]
    by_cases hp : st.be ≤ many
    · rw [if_pos hp]
      have he : bestR l (r + 1) ls found = found := by
        cases found with
        | none => simp only [Rel] at hrel; omega
        | some f =>
          simp only [Rel] at hrel
          exact best_prune l (r + 1) ls f (by omega)
      rw [he]
      exact ⟨hrel, hlb, hlbe, hjl, fun _ _ _ => rfl⟩
    · rw [if_neg hp, bestR_succ, if_pos ha]
      have hfold : ∀ k, k ≤ i → After l i ls (bestFold l r ls found k) st (putAt l r i many st k) := by
        intro k
        induction k with
        | zero => intro _; exact ⟨hrel, hlb, hlbe, hjl, fun _ _ _ => rfl⟩
        | succ k ihk =>
          intro hk
          obtain ⟨r1, r2, r3, r4, r5⟩ := ihk (by omega)
          have hJk : Joins l m i ls (putAt l r i many st k).js := hJ.same r4 r5
          rw [putAt_succ, bestFold_succ]
          generalize putAt l r i many st k = sk at r1 r2 r3 r4 r5 hJk ⊢
          generalize bestFold l r ls found k = fk at r1 ⊢
          have hki : k < i := by omega
          have hho : holds sk.lb sk.js (cellsAt l i) k = (decide (ls.getD k 0 = (k : Int)) && goodTo l ls i k i) := by
            rw [← hJk.holds hF hil hki, holds, holds, r3 k hki]
          rw [putTo, hho]
          by_cases hd : ls.getD k 0 = (k : Int)
          · rw [if_pos (.inr hd), decide_eq_true hd, Bool.true_and]
            cases hg : goodTo l ls i k i with
            | false =>
              have hna : allowedR l (ls ++ [(k : Int)]) = false := by rw [allowed_snoc, hl, hg, Bool.and_false]
              have hbe : bestR l r (ls ++ [(k : Int)]) fk = fk := by
                cases r with
                | zero => rw [bestR, hna]; rfl
                | succ r => rw [bestR_succ, hna]; rfl
              rw [hbe]
              exact ⟨r1, r2, r3, r4, r5⟩
            | true =>
              have hya : allowedR l (ls ++ [(k : Int)]) = true := by rw [allowed_snoc, hl, hg, ha]; rfl
              have hln : (ls ++ [(k : Int)]).length = i + 1 := by rw [List.length_append, hl]; rfl
              have hfit : fitC (sk.js.getD k []) (cellsAt l i) = true := by
                have := hho
                rw [hg, decide_eq_true hd] at this
                simp only [holds, Bool.and_eq_true, Bool.true_and] at this
                exact this.2
              have hfr : ∀ j, j < i → (ls ++ [(k : Int)]).getD j 0 = ls.getD j 0 := fun j hj => getD_front _ _ _ (by omega)
              have hla : (ls ++ [(k : Int)]).getD i 0 = (k : Int) := getD_last _ _ _ hl.symm
              have hJn := hJk.join hF hil hki hd hfit hfr hla
              have hA := ih (i + 1) many (putIn l i k sk) (ls ++ [(k : Int)]) fk (by omega) hln (hc.snoc (.inr ⟨by omega, hd⟩)) hya (by rw [many_snoc, if_neg (by omega), hm]; rfl)
                (by simp only [putIn, List.length_set]; exact r2) (fun j hj => by
                  simp only [putIn, getD_set]
                  rcases Nat.lt_succ_iff_lt_or_eq.1 hj with hj | hj
                  · rw [if_neg (fun hh => by omega), hfr j hj, r3 j hj]
                  · subst hj; rw [if_pos ⟨rfl, by omega⟩, hla]) hJn r1
              obtain ⟨s1, s2, s3, s4, s5⟩ := hA
              rw [if_pos rfl]
              generalize putC l r (i + 1) many (putIn l i k sk) = s' at s1 s2 s3 s4 s5 ⊢
              refine ⟨s1, s2, fun j hj => ?_, by simp only [putOut, List.length_set]; exact s4, fun k' hk' hd' => ?_⟩
              · simp only [putOut]
                rw [s3 j (by omega), hfr j hj]
              · simp only [putOut, getD_set]
                by_cases hkk : k = k'
                · subst hkk
                  rw [if_pos ⟨rfl, by omega⟩]
                  exact r5 k hk' hd'
                · rw [if_neg (fun hh => hkk hh.1), s5 k' (by omega) (by rw [hfr k' hk']; exact hd')]
                  simp only [putIn, getD_set]
                  rw [if_neg (fun hh => hkk hh.1)]
                  exact r5 k' hk' hd'
          · rw [if_neg (fun hh => hh.elim (fun h => by omega) hd), decide_eq_false hd, Bool.false_and, if_neg (by simp)]
            exact ⟨r1, r2, r3, r4, r5⟩
      obtain ⟨r1, r2, r3, r4, r5⟩ := hfold i (Nat.le_refl _)
      have hJi : Joins l m i ls (putAt l r i many st i).js := hJ.same r4 r5
      rw [show ls.length + 1 = i + 1 by omega, bestFold_succ, if_pos (.inl hl.symm)]
      generalize putAt l r i many st i = sk at r1 r2 r3 r4 r5 hJi ⊢
      generalize bestFold l r ls found i = fk at r1 ⊢
      have hln : (ls ++ [(i : Int)]).length = i + 1 := by rw [List.length_append, hl]; rfl
      have hfr : ∀ j, j < i → (ls ++ [(i : Int)]).getD j 0 = ls.getD j 0 := fun j hj => getD_front _ _ _ (by omega)
      have hla : (ls ++ [(i : Int)]).getD i 0 = (i : Int) := getD_last _ _ _ hl.symm
      have hJn := hJi.new hF hil (fun j hj => hc.le j (by omega)) hfr hla
      have hya : allowedR l (ls ++ [(i : Int)]) = true := by
        have := good_new (l := l) hc
        rw [hl] at this
        rw [allowed_snoc, hl, ha, this]; rfl
      have hA := ih (i + 1) (many + 1) (putNew l i sk) (ls ++ [(i : Int)]) fk (by omega) hln (hc.snoc (.inl hl.symm)) hya (by rw [many_snoc, if_pos hl.symm, hm])
        (by simp only [putNew, List.length_set]; exact r2) (fun j hj => by
          simp only [putNew, getD_set]
          rcases Nat.lt_succ_iff_lt_or_eq.1 hj with hj | hj
          · rw [if_neg (fun hh => by omega), hfr j hj, r3 j hj]
          · subst hj; rw [if_pos ⟨rfl, by omega⟩, hla]) hJn r1
      obtain ⟨s1, s2, s3, s4, s5⟩ := hA
      refine ⟨s1, s2, fun j hj => ?_, s4, fun k' hk' hd' => ?_⟩
      · rw [s3 j (by omega), hfr j hj]
      · rw [s5 k' (by omega) (by rw [hfr k' hk']; exact hd')]
        simp only [putNew, getD_set]
        rw [if_neg (fun hh => by omega)]
        exact r5 k' hk' hd'

theorem can_nil : Can [] := fun j hj => by simp at hj
theorem fewest_same {l : List Corr} (h : listC l = true) : (lblC l).fd = lblR l ∧ (lblC l).be = manyC (lblR l) (lblR l).length := by
  have hJ : Joins l (headLen l) 0 [] (putZero l).js := ⟨by simp [putZero], fun k hk => by omega⟩
  have hA := put_best (Fine.of h) l.length 0 0 (putZero l) [] none (by omega) rfl can_nil rfl rfl (by simp [putZero]) (fun j hj => by omega) hJ ⟨rfl, rfl⟩
  have hs := best_some l l.length [] none can_nil rfl
  have hr := hA.rel
  rw [lblR]
  cases hb : bestR l l.length [] none with
  | none => exact absurd hb hs
  | some f =>
    rw [hb] at hr
    exact hr

end Go.Cp
end

section
set_option linter.unusedVariables false
set_option linter.unusedSimpArgs false
namespace Go.Cp
open Go Go.Proofs Go.Vx

structure PI (l : List Corr) (m : Nat) (labels : List Int) (i : Nat) (st : PatSt) : Prop where
  J : Joins l m i labels st.1
  eq : ∀ k, k < i → labels.getD k 0 = (k : Int) → st.1.getD k [] = (rowTo' l labels k i).cells ∧ aget (k : Int) st.2 = some (rowTo' l labels k i).count
  no : ∀ k : Nat, i ≤ k → aget (k : Int) st.2 = none
  ok : ∀ a, a < i → rowOK l labels a = true

theorem pat_main {l : List Corr} {m : Nat} {labels : List Int} (hF : Fine l m) (hlen : labels.length = l.length) (hC : Can labels) : ∀ (r i : Nat) (st : PatSt), i + r = l.length → PI l m labels i st →
    (∀ st', patGo l labels r i st = some st' → PI l m labels l.length st') ∧ (patGo l labels r i st = none → allowedR l labels = false)
  | 0, i, st, hr, h => by
    have : i = l.length := by omega
    subst this
    exact ⟨fun st' he => by simp only [patGo, Option.some.injEq] at he; rw [← he]; exact h, fun he => by simp [patGo] at he⟩
  | r + 1, i, st, hr, h => by
    have hi : i < l.length := by omega
    obtain ⟨k, h1, h2, h3⟩ := hC i (by omega)
    obtain ⟨js, es⟩ := st
    obtain ⟨hJ, heq, hno, hok⟩ := h
    simp only at hJ heq hno hok
    have hjl := hJ.len
    have hct : countAt l i = (l.getD i Corr.zero).count := rfl
    have hcl : cellsAt l i = (l.getD i Corr.zero).cells := rfl
    rw [patGo, h1]
    by_cases hki : (k : Int) = i
    · have hke : k = i := by omega
      subst hke
      rw [if_pos rfl]
      refine pat_main hF hlen hC r (k + 1) _ (by omega) ⟨hJ.new hF hi (fun j hj => hC.le j (by omega)) (fun _ _ => rfl) h1, fun q hq hd => ?_, fun q hq => ?_, fun a ha => ?_⟩
      · simp only [getD_set, aget_aput]
        by_cases hqk : k = q
        · subst hqk
          rw [if_pos ⟨rfl, by omega⟩, if_pos rfl, rowTo'_start l labels k (k + 1) (Nat.le_refl _), hno k (Nat.le_refl _)]
          simp only [Option.getD_none, Int.zero_add]
          exact ⟨hcl, by rw [hct]⟩
        · rw [if_neg (fun hh => hqk hh.1), if_neg (by omega), rowTo'_succ, if_neg (fun hh => by have := hh.2; rw [h1] at this; omega)]
          exact heq q (by omega) hd
      · simp only [aget_aput]
        rw [if_neg (by omega)]
        exact hno q (by omega)
      · rcases Nat.lt_succ_iff_lt_or_eq.1 ha with ha | ha
        · exact hok a ha
        · subst ha
          rw [rowOK, all_range]
          intro j hj
          have := hC.le j (by omega)
          rw [clash, h1, decide_eq_false (by omega)]; rfl
    · have hkl : k < i := by omega
      rw [if_neg hki, Int.toNat_natCast]
      obtain ⟨a1, a2, a3⟩ := hJ.at' k hkl h3
      obtain ⟨q1, q2⟩ := heq k hkl h3
      by_cases hf : fitC (js.getD k []) (cellsAt l i) = true
      · rw [if_pos hf]
        have hfr : fitR (js.getD k []) (cellsAt l i) = true := by rw [← fit_same a2 (hF.at_ok hi)]; exact hf
        refine pat_main hF hlen hC r (i + 1) _ (by omega) ⟨hJ.join hF hi hkl h3 hf (fun _ _ => rfl) h1, fun q hq hd => ?_, fun q hq => ?_, fun a ha => ?_⟩
        · simp only [getD_set, aget_aput]
          by_cases hqk : k = q
          · subst hqk
            rw [if_pos ⟨rfl, by omega⟩, if_pos rfl, rowTo'_succ, if_pos ⟨hkl, h1⟩, join_same a2, q1, q2, hct, hcl]
            exact ⟨rfl, rfl⟩
          · have hqi : q < i := by
              rcases Nat.lt_succ_iff_lt_or_eq.1 hq with hq | hq
              · exact hq
              · subst hq; rw [h1] at hd; omega
            rw [if_neg (fun hh => hqk hh.1), if_neg (by omega), rowTo'_succ, if_neg (fun hh => by have := hh.2; rw [h1] at this; omega)]
            exact heq q hqi hd
        · simp only [aget_aput]
          rw [if_neg (by omega)]
          exact hno q (by omega)
        · rcases Nat.lt_succ_iff_lt_or_eq.1 ha with ha | ha
          · exact hok a ha
          · subst ha
            rw [rowOK, all_range]
            intro j hj
            have hh := (a3 _ (hF.at_len hi)).1 hfr j hj
            rw [clash, h1]
            by_cases hl : labels.getD j 0 = (k : Int)
            · rw [fitR_symm, hh hl]; simp
            · rw [decide_eq_false (fun e => hl e.symm)]; rfl
      · rw [if_neg hf]
        refine ⟨fun st' he => (by cases he), fun _ => ?_⟩
        cases hal : allowedR l labels with
        | false => rfl
        | true =>
          exfalso
          rw [allowedR, all_range] at hal
          have hrow := hal i (by omega)
          rw [rowOK, all_range] at hrow
          apply hf
          rw [fit_same a2 (hF.at_ok hi), a3 _ (hF.at_len hi)]
          intro j hj hl
          have := hrow j hj
          rw [clash, h1, hl, decide_eq_true rfl, Bool.true_and, Bool.not_not] at this
          rw [fitR_symm]; exact this

theorem pat_start {l : List Corr} {m : Nat} {labels : List Int} : PI l m labels 0 (pat0 l) :=
  ⟨⟨by simp [pat0], fun k hk => by omega⟩, fun k hk => by omega, fun k _ => rfl, fun a ha => by omega⟩
theorem patterns_same {l : List Corr} {labels : List Int} (hin : ∀ c ∈ l, c.In) : patER l labels = patE l labels ∧ patOR l labels = patO l labels := by
  have hc := check_same hin 256
  by_cases h0 : checkC l 256 = 0
  · have hlist := check_list (n := 256) h0
    have hF := Fine.of hlist
    have e1 : patE l labels = if labels.length = l.length ∧ canonC labels = true then (if (patC l labels).isSome then 0 else 8) else 2 := by rw [patE, if_neg (by simpa using h0)]
    have e2 : patER l labels = if labels.length = l.length ∧ canonC labels = true then (if allowedR l labels = true then 0 else 8) else 2 := by rw [patER, hc, if_neg (by simpa using h0)]
    by_cases hh : labels.length = l.length ∧ canonC labels = true
    · obtain ⟨hlen, hcan⟩ := hh
      have hm := pat_main hF hlen (canon_iff.1 hcan) l.length 0 (pat0 l) (by omega) pat_start
      rw [if_pos ⟨hlen, hcan⟩] at e1 e2
      cases hp : patC l labels with
      | none =>
        have := hm.2 hp
        rw [hp] at e1
        rw [this] at e2
        have f1 : patE l labels = 8 := e1
        have f2 : patER l labels = 8 := e2
        refine ⟨by rw [f1, f2], ?_⟩
        rw [patO, patOR, f1, f2]; rfl
      | some st =>
        have hP := hm.1 st hp
        have hal : allowedR l labels = true := by
          rw [allowedR, all_range]
          intro a ha
          exact hP.ok a (by omega)
        rw [hp] at e1
        rw [hal] at e2
        have f1 : patE l labels = 0 := e1
        have f2 : patER l labels = 0 := e2
        refine ⟨by rw [f1, f2], ?_⟩
        rw [patO, patOR, f1, f2, if_pos rfl, if_pos rfl, hp, Option.getD_some, hlen]
        have : ∀ k, k ≤ l.length → outR l labels k = outTo labels st k := by
          intro k
          induction k with
          | zero => intro _; rfl
          | succ k ih =>
            intro hk
            rw [outR_succ, outTo_succ, ih (by omega)]
            by_cases hd : labels.getD k 0 = (k : Int)
            · obtain ⟨q1, q2⟩ := hP.eq k (by omega) hd
              rw [if_pos hd, if_pos hd, q1, q2]; rfl
            · rw [if_neg hd, if_neg hd]
        exact this _ (Nat.le_refl _)
    · rw [if_neg hh] at e1 e2
      refine ⟨by rw [e1, e2], ?_⟩
      rw [patO, patOR, e1, e2]; rfl
  · have e1 : patE l labels = checkC l 256 := by rw [patE, if_pos h0]
    have e2 : patER l labels = checkC l 256 := by rw [patER, hc, if_pos h0]
    refine ⟨by rw [e1, e2], ?_⟩
    rw [patO, patOR, e1, e2, if_neg h0, if_neg h0]

/-! Predict -/
theorem cellTo_front (s : List (List Cell)) (c : List Cell) (q : Nat) (hs : 0 < s.length) : ∀ i, i ≤ s.length → cellTo (s ++ [c]) q i = cellTo s q i
  | 0, _ => by simp only [cellTo, List.range_zero, List.foldl_nil, atC, List.getD, List.getElem?_append_left hs]
  | i + 1, hi => by
    have e : atC (s ++ [c]) i q = atC s i q := by simp only [atC, List.getD, List.getElem?_append_left (show i < s.length by omega)]
    rw [cellTo_succ, cellTo_succ, cellTo_front s c q hs i (by omega), e]
def Sum (m : Nat) (s : List (List Cell)) : Option (List Cell) → Prop
  | none => s = []
  | some d => 0 < s.length ∧ d.length = m ∧ ∀ q, q < m → d.getD q Cell.zero = cellTo s q s.length
theorem zipF_getD (f : Cell → Cell → Cell) {xs ys : List Cell} {q : Nat} (h : q < xs.length) (h' : q < ys.length) : (List.zipWith f xs ys).getD q Cell.zero = f (xs.getD q Cell.zero) (ys.getD q Cell.zero) := by
  simp only [List.getD, List.getElem?_zipWith, List.getElem?_eq_getElem h, List.getElem?_eq_getElem h', Option.getD_some]
theorem pred_sum {l : List Corr} {x : List Cell} {m : Nat} (hF : Fine l m) (hv : x.all validC = true) : ∀ k, k ≤ l.length → Sum m (someTo l x k) (predTo l x k)
  | 0, _ => by simp [predTo, someTo, Sum]
  | k + 1, hk => by
    have ih := pred_sum hF hv k (by omega)
    have hk' : k < l.length := by omega
    have hcl : cellsAt l k = (l.getD k Corr.zero).cells := rfl
    have hlen := hF.at_len hk'
    rw [predTo_succ, predStep, someTo_succ hk', ← hcl, fit_same (hF.at_ok hk') hv]
    cases hf : fitR (cellsAt l k) x with
    | false =>
      rw [if_neg (by simp), if_neg (by simp), List.append_nil]
      exact ih
    | true =>
      rw [if_pos rfl, if_pos rfl]
      generalize cellsAt l k = c at hlen ⊢
      generalize someTo l x k = s at ih ⊢
      cases hp : predTo l x k with
      | none =>
        rw [hp] at ih
        have hs : s = [] := ih
        subst hs
        rw [Option.getD_none]
        refine ⟨by simp, by rw [mergeC, zipF_len (Nat.le_refl _)]; exact hlen, fun q hq => ?_⟩
        rw [mergeC, zipF_getD _ (by omega) (by omega), mergeP, if_pos rfl]
        simp [cellTo, atC, List.range_succ]
      | some d =>
        rw [hp] at ih
        obtain ⟨h1, h2, h3⟩ := ih
        rw [Option.getD_some]
        refine ⟨by simp, by rw [mergeC, zipF_len (by omega)]; exact h2, fun q hq => ?_⟩
        have e : atC (s ++ [c]) s.length q = c.getD q Cell.zero := by simp [atC, List.getD]
        rw [mergeC, zipF_getD _ (by omega) (by omega), mergeP, List.length_append, List.length_cons, List.length_nil, cellTo_succ, cellTo_front s c q h1 _ (Nat.le_refl _), e, h3 q hq]
        by_cases hh : cellTo s q s.length = c.getD q Cell.zero
        · rw [if_pos hh, if_pos hh.symm]
        · rw [if_neg hh, if_neg (fun h => hh h.symm)]
theorem cells_ext {xs ys : List Cell} (h : xs.length = ys.length) (hj : ∀ j, j < xs.length → xs.getD j Cell.zero = ys.getD j Cell.zero) : xs = ys := by
  apply List.ext_getElem? ; intro j
  by_cases hlt : j < xs.length
  · have := hj j hlt
    simp only [List.getD, List.getElem?_eq_getElem hlt, List.getElem?_eq_getElem (show j < ys.length by omega), Option.getD_some] at this
    rw [List.getElem?_eq_getElem hlt, List.getElem?_eq_getElem (by omega), this]
  · rw [List.getElem?_eq_none (by omega), List.getElem?_eq_none (by omega)]
theorem join_cells {x d : List Cell} {s : List (List Cell)} {m : Nat} (hx : x.length = m) (hv : x.all validC = true) (hd : Sum m s (some d)) : cellsR s x x.length = joinC x d := by
  obtain ⟨h1, h2, h3⟩ := hd
  refine cells_ext (by rw [cellsR, List.length_map, List.length_range, joinC_len (by omega)]) fun q hq => ?_
  rw [cellsR, List.length_map, List.length_range] at hq
  have hvq : validC (x.getD q Cell.zero) = true := List.all_eq_true.1 hv _ (getD_mem hq)
  have e1 : (cellsR s x x.length).getD q Cell.zero = cellR s x q := by
    simp only [cellsR, List.getD, List.getElem?_map, List.getElem?_range hq, Option.map_some, Option.getD_some]
  rw [e1, joinC, zipF_getD _ hq (by omega), cellR, joinP, h3 q (by omega)]
  by_cases hk : (x.getD q Cell.zero).kind = 0
  · rw [if_pos hk, if_pos ((kind_zero hvq).1 hk)]
  · rw [if_neg hk, if_neg (fun h => hk ((kind_zero hvq).2 h))]
theorem pred_list {l : List Corr} {x : List Cell} (hin : ∀ c ∈ l, c.In) (hx : ∀ c ∈ x, c.In) : listR (l ++ [⟨x, 0⟩]) = (listC l && !predBad l x) := by
  have hvx := valid_all hx
  rw [← list_same hin]
  cases l with
  | nil =>
    simp [listR, corrD, headLen, predBad, hvx]
  | cons c r =>
    have e : headLen (c :: r ++ [⟨x, 0⟩]) = headLen (c :: r) := rfl
    rw [listR, e, List.all_append, listR, predBad]
    have e2 : [(⟨x, 0⟩ : Corr)].all (corrD (headLen (c :: r))) = (x.all validC && decide (headLen (c :: r) = x.length)) := by
      simp only [List.all_cons, List.all_nil, Bool.and_true, corrD, hvx]
      have : decide (x.length = headLen (c :: r)) = decide (headLen (c :: r) = x.length) := by congr 1; exact propext ⟨Eq.symm, Eq.symm⟩
      rw [this]; rfl
    rw [e2, show decide (0 < (c :: r).length) = true from by simp]
    cases (c :: r).all (corrD (headLen (c :: r))) <;> cases x.all validC <;> simp
theorem predict_same {l : List Corr} {x : List Cell} (hin : ∀ c ∈ l, c.In) (hx : ∀ c ∈ x, c.In) : predER l x = predE l x ∧ predOR l x = predO l x := by
  have hpl := pred_list hin hx
  by_cases hn : 256 < l.length
  · have hc : checkC l 256 = 12 := by rw [checkC, if_pos (by omega)]
    have e1 : predE l x = 12 := by rw [predE, hc]; rfl
    have e2 : predER l x = 12 := by rw [predER, if_pos hn]
    refine ⟨by rw [e1, e2], ?_⟩
    rw [predO, predOR, e1, e2]; rfl
  · have hc : checkC l 256 = if listC l then 0 else 2 := by rw [checkC, if_neg (by omega)]
    have e2 : predER l x = if listR (l ++ [⟨x, 0⟩]) = true then (if (someTo l x l.length).length = 0 then 5 else 0) else 2 := by rw [predER, if_neg hn]
    cases hl : listC l with
    | false =>
      rw [hl] at hpl hc
      rw [hpl] at e2
      have f1 : predE l x = 2 := by rw [predE, hc]; rfl
      have f2 : predER l x = 2 := e2
      refine ⟨by rw [f1, f2], ?_⟩
      rw [predO, predOR, f1, f2]; rfl
    | true =>
      rw [hl] at hpl hc
      have hc0 : checkC l 256 = 0 := hc
      have e1 : predE l x = if predBad l x = true then 2 else if (predTo l x l.length).isSome = true then 0 else 5 := by rw [predE, if_neg (by simpa using hc0)]
      cases hb : predBad l x with
      | true =>
        rw [hb] at hpl e1
        rw [hpl] at e2
        have f1 : predE l x = 2 := e1
        have f2 : predER l x = 2 := e2
        refine ⟨by rw [f1, f2], ?_⟩
        rw [predO, predOR, f1, f2]; rfl
      | false =>
        rw [hb] at hpl e1
        rw [hpl] at e2
        have hF := Fine.of hl
        rw [predBad, Bool.or_eq_false_iff] at hb
        have hv : x.all validC = true := by simpa using hb.1
        have hS := pred_sum hF hv l.length (Nat.le_refl _)
        cases hp : predTo l x l.length with
        | none =>
          rw [hp] at hS e1
          have hs : someTo l x l.length = [] := hS
          rw [hs] at e2
          have f1 : predE l x = 5 := e1
          have f2 : predER l x = 5 := e2
          refine ⟨by rw [f1, f2], ?_⟩
          rw [predO, predOR, f1, f2]; rfl
        | some d =>
          rw [hp] at hS e1
          have hne : ¬ (someTo l x l.length).length = 0 := by have := hS.1; omega
          have f1 : predE l x = 0 := e1
          have f2 : predER l x = 0 := by rw [e2, if_pos (by rfl), if_neg hne]
          refine ⟨by rw [f1, f2], ?_⟩
          have hxm : x.length = headLen l := by
            have hl0 : 0 < l.length := by
              rcases Nat.eq_zero_or_pos l.length with h | h
              · have := someTo_le l x l.length
                omega
              · exact h
            have := hb.2
            rw [decide_eq_true hl0, Bool.true_and] at this
            simp at this; omega
          rw [predO, predOR, f1, f2, if_pos rfl, if_pos rfl, hp, Option.getD_some]
          exact join_cells hxm hv hS

end Go.Cp
end
