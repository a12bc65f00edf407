/-
  Compat: correspondences out of numbers are valid. Conditions: none.
  Compat, plain: both assignments are allowed, and the one of Fewest has the fewest classes. Conditions: none.
-/
import Derived.Test.YtiafkdnbfpfmiaaMH
import Derived.Test.YtiafkdnbfpfmiaaMJ

section
set_option linter.unusedVariables false
set_option linter.unusedSimpArgs false
set_option maxHeartbeats 8000000
set_option maxRecDepth 10000
namespace Go.Cp
open Go Go.Proofs Go.Vx

theorem digC_ok (d : Nat) : validC (digC d) = true := by
  unfold digC
  split
  · kernel_rfl
  · split
    · kernel_rfl
    · split <;> kernel_rfl
theorem row_valid (n : Nat) : (madeRow n).all validC = true := by
  rw [madeRow, List.all_map, List.all_eq_true]
  intro j _
  exact digC_ok _
theorem row_len (n : Nat) : (madeRow n).length = 5 := by simp [madeRow]
theorem made_mem {l : List Nat} {c : Corr} (h : c ∈ madeC l) : c.cells.all validC = true ∧ c.cells.length = 5 ∧ 0 ≤ c.count ∧ c.count ≤ 6 := by
  obtain ⟨n, _, rfl⟩ := List.mem_map.1 h
  refine ⟨row_valid n, row_len n, ?_, ?_⟩
  · show (0 : Int) ≤ ((n % 7 : Nat) : Int)
    omega
  · show ((n % 7 : Nat) : Int) ≤ 6
    omega
theorem made_list (l : List Nat) : listC (madeC l) = true := by
  rw [listC, List.all_eq_true]
  intro c hc
  obtain ⟨h1, h2, h3, h4⟩ := made_mem hc
  have hh : headLen (madeC l) = 5 := by
    have : 0 < (madeC l).length := List.length_pos_of_mem hc
    exact (made_mem (getD_mem (z := Corr.zero) this)).2.1
  simp only [corrB, h1, h2, hh, Bool.true_and, Bool.and_eq_true, Bool.not_eq_true', decide_eq_false_iff_not, decide_true, and_true]
  omega
theorem made_check (l : List Nat) (n : Int) (h : (madeC l).length ≤ n) : checkC (madeC l) n = 0 := by
  rw [checkC, if_neg (by omega), made_list, if_pos rfl]
theorem made_len (l : List Nat) : (madeC l).length = min 12 l.length := by rw [madeC, List.length_map, List.length_take]
theorem made_bound (l : List Nat) : ∀ c ∈ madeC l, c.cells.length * 16 ≤ 140737488355328 := fun c hc => by
  have := (made_mem hc).2.1
  omega

end Go.Cp
end

section
set_option linter.unusedVariables false
set_option linter.unusedSimpArgs false
namespace Go.Cp
open Go Go.Proofs Go.Vx

structure Asg (l : List Corr) (ls : List Int) : Prop where
  len : ls.length = l.length
  can : Can ls
  ok : allowedR l ls = true

theorem ref_asg (l : List Corr) : ∀ i, Can (refAt l i) ∧ allowedR l (refAt l i) = true
  | 0 => ⟨can_nil, rfl⟩
  | i + 1 => by
    obtain ⟨h1, h2⟩ := ref_asg l i
    have hll := refAt_len l i
    obtain ⟨K, hK⟩ : ∃ K, scan (fitsR l (refAt l i) i) i 0 = K := ⟨_, rfl⟩
    have hle := (scan_le (fitsR l (refAt l i) i) i 0).2
    rw [hK] at hle
    rw [refAt, refK, hK]
    by_cases hKi : K < i
    · have ht := scan_true (p := fitsR l (refAt l i) i) (n := i) (a := 0) (by rw [hK]; omega)
      rw [hK, fitsR, Bool.and_eq_true, decide_eq_true_eq] at ht
      exact ⟨h1.snoc (.inr ⟨by omega, ht.1⟩), by rw [allowed_snoc, h2, hll, ht.2]; rfl⟩
    · have hKe : K = (refAt l i).length := by omega
      exact ⟨h1.snoc (.inl hKe), by rw [allowed_snoc, h2, hKe, good_new h1]; rfl⟩

theorem take_snoc {g : List Int} {i : Nat} (h : i < g.length) : g.take (i + 1) = g.take i ++ [g.getD i 0] := by
  rw [List.take_add_one, List.getD, List.getElem?_eq_getElem h]; rfl
theorem getD_take {g : List Int} {i j : Nat} (h : j < i) : (g.take i).getD j 0 = g.getD j 0 := by
  simp only [List.getD, List.getElem?_take, if_pos h]
theorem allowed_take {l : List Corr} {g : List Int} (ha : allowedR l g = true) : ∀ i, i ≤ g.length → allowedR l (g.take i) = true := fun i hi => by
  have hl : (g.take i).length = i := by rw [List.length_take]; omega
  rw [allowedR, all_range] at ha ⊢
  rw [hl]
  intro a hai
  have := ha a (by omega)
  rw [rowOK, all_range] at this ⊢
  intro j hj
  have h2 := this j hj
  rw [clash] at h2 ⊢
  rw [getD_take hai, getD_take (by omega)]
  exact h2

theorem best_min {l : List Corr} : ∀ (r : Nat) (ls : List Int) (found : Option (List Int)), ls.length + r = l.length → Can ls → (∀ f, found = some f → Asg l f) →
    (∀ f, bestR l r ls found = some f → Asg l f) ∧ (∀ f0, found = some f0 → ∃ f, bestR l r ls found = some f ∧ manyC f f.length ≤ manyC f0 f0.length) ∧
      (∀ g, Asg l g → g.take ls.length = ls → ∃ f, bestR l r ls found = some f ∧ manyC f f.length ≤ manyC g g.length)
  | 0, ls, found, hr, hc, hf => by
    rw [bestR]
    by_cases ha : allowedR l ls = true
    · rw [if_pos ha]
      have hA : Asg l ls := ⟨by omega, hc, ha⟩
      have hg : ∀ g, Asg l g → g.take ls.length = ls → g = ls := fun g h1 h2 => by
        rw [List.take_of_length_le (by have := h1.len; omega)] at h2
        exact h2
      cases found with
      | none =>
        rw [if_pos (show better ls none = true from rfl)]
        exact ⟨fun f h => by injection h with h; rw [← h]; exact hA, fun f0 h => (by cases h), fun g h1 h2 => ⟨ls, rfl, by rw [hg g h1 h2]; exact Nat.le_refl _⟩⟩
      | some f =>
        by_cases hb : better ls (some f) = true
        · rw [if_pos hb]
          refine ⟨fun f' h => by injection h with h; rw [← h]; exact hA, fun f0 h => ⟨ls, rfl, ?_⟩, fun g h1 h2 => ⟨ls, rfl, by rw [hg g h1 h2]; exact Nat.le_refl _⟩⟩
          injection h with h
          rw [← h]
          simp only [better, decide_eq_true_eq] at hb
          omega
        · rw [if_neg hb]
          refine ⟨hf, fun f0 h => ⟨f0, h, Nat.le_refl _⟩, fun g h1 h2 => ⟨f, rfl, ?_⟩⟩
          rw [hg g h1 h2]
          simp only [better, decide_eq_true_eq] at hb
          omega
    · rw [if_neg ha]
      refine ⟨hf, fun f0 h => ⟨f0, h, Nat.le_refl _⟩, fun g h1 h2 => ?_⟩
      have := allowed_take h1.ok ls.length (by have := h1.len; omega)
      rw [h2] at this
      exact absurd this ha
  | r + 1, ls, found, hr, hc, hf => by
    rw [bestR_succ]
    by_cases ha : allowedR l ls = true
    · rw [if_pos ha]
      have key : ∀ k, k ≤ ls.length + 1 → (∀ f, bestFold l r ls found k = some f → Asg l f) ∧ (∀ f0, found = some f0 → ∃ f, bestFold l r ls found k = some f ∧ manyC f f.length ≤ manyC f0 f0.length) ∧
          (∀ g, Asg l g → g.take ls.length = ls → (∃ k', k' < k ∧ g.getD ls.length 0 = (k' : Int)) → ∃ f, bestFold l r ls found k = some f ∧ manyC f f.length ≤ manyC g g.length) := by
        intro k
        induction k with
        | zero => intro _; exact ⟨hf, fun f0 h => ⟨f0, h, Nat.le_refl _⟩, fun g _ _ h => by obtain ⟨k', h, _⟩ := h; omega⟩
        | succ k ihk =>
          intro hk
          obtain ⟨i1, i2, i3⟩ := ihk (by omega)
          rw [bestFold_succ]
          by_cases hd : k = ls.length ∨ ls.getD k 0 = (k : Int)
          · rw [if_pos hd]
            have hcs : Can (ls ++ [(k : Int)]) := hc.snoc (by
              rcases hd with hd | hd
              · exact .inl hd
              · by_cases hkk : k = ls.length
                · exact .inl hkk
                · exact .inr ⟨by omega, hd⟩)
            have hln : (ls ++ [(k : Int)]).length = ls.length + 1 := by rw [List.length_append]; rfl
            obtain ⟨b1, b2, b3⟩ := best_min r (ls ++ [(k : Int)]) (bestFold l r ls found k) (by omega) hcs i1
            refine ⟨b1, fun f0 h => ?_, fun g h1 h2 h3 => ?_⟩
            · obtain ⟨f, h4, h5⟩ := i2 f0 h
              obtain ⟨f', h6, h7⟩ := b2 f h4
              exact ⟨f', h6, by omega⟩
            · obtain ⟨k', h4, h5⟩ := h3
              by_cases hkk : k' = k
              · subst hkk
                refine b3 g h1 ?_
                rw [hln, take_snoc (by have := h1.len; omega), h2, h5]
              · obtain ⟨f, h6, h7⟩ := i3 g h1 h2 ⟨k', by omega, h5⟩
                obtain ⟨f', h8, h9⟩ := b2 f h6
                exact ⟨f', h8, by omega⟩
          · rw [if_neg hd]
            refine ⟨i1, i2, fun g h1 h2 h3 => ?_⟩
            obtain ⟨k', h4, h5⟩ := h3
            by_cases hkk : k' = k
            · subst hkk
              exfalso
              apply hd
              have hgl := h1.len
              obtain ⟨q, c1, c2, c3⟩ := h1.can ls.length (by omega)
              have hq : q = k' := by omega
              subst hq
              by_cases hql : q = ls.length
              · exact .inl hql
              · right
                have : (g.take ls.length).getD q 0 = g.getD q 0 := getD_take (by omega)
                rw [h2] at this
                rw [this, c3]
            · exact i3 g h1 h2 ⟨k', by omega, h5⟩
      obtain ⟨k1, k2, k3⟩ := key (ls.length + 1) (Nat.le_refl _)
      refine ⟨k1, k2, fun g h1 h2 => k3 g h1 h2 ?_⟩
      obtain ⟨q, c1, c2, _⟩ := h1.can ls.length (by have := h1.len; omega)
      exact ⟨q, by omega, c1⟩
    · rw [if_neg ha]
      refine ⟨hf, fun f0 h => ⟨f0, h, Nat.le_refl _⟩, fun g h1 h2 => ?_⟩
      have := allowed_take h1.ok ls.length (by have := h1.len; omega)
      rw [h2] at this
      exact absurd this ha

theorem best_asg (l : List Corr) : Asg l (lblR l) ∧ ∀ g, Asg l g → manyC (lblR l) (lblR l).length ≤ manyC g g.length := by
  obtain ⟨h1, _, h3⟩ := best_min l.length [] none (by simp) can_nil (l := l) (fun f h => by cases h)
  have hs := best_some l l.length [] none can_nil rfl
  rw [lblR]
  cases hb : bestR l l.length [] none with
  | none => exact absurd hb hs
  | some f =>
    rw [hb] at h1 h3
    refine ⟨h1 f rfl, fun g hg => ?_⟩
    obtain ⟨f', e, hle⟩ := h3 g hg (by simp)
    injection e with e
    rw [Option.getD_some, e]; exact hle
theorem refAt_asg (l : List Corr) : Asg l (refAt l l.length) := ⟨refAt_len l _, (ref_asg l _).1, (ref_asg l _).2⟩

theorem Asg.apart {l : List Corr} {ls : List Int} (h : Asg l ls) {i j : Nat} (hij : i < j) (hj : j < l.length) (hf : fitR (cellsAt l i) (cellsAt l j) = false) : ls.getD i 0 ≠ ls.getD j 0 := fun e => by
  have ha := h.ok
  rw [allowedR, all_range] at ha
  have hrow := ha j (by have := h.len; omega)
  rw [rowOK, all_range] at hrow
  have := hrow i hij
  rw [clash, decide_eq_true e.symm, Bool.true_and, Bool.not_not, fitR_symm, hf] at this
  cases this

theorem nodup_le : ∀ (xs ys : List Nat), xs.Nodup → (∀ x ∈ xs, x ∈ ys) → xs.length ≤ ys.length
  | [], ys, _, _ => Nat.zero_le _
  | x :: xs, ys, hn, hm => by
    rw [List.nodup_cons] at hn
    have hx := hm x (List.mem_cons_self ..)
    have ih := nodup_le xs (ys.erase x) hn.2 fun y hy => by
      have hne : y ≠ x := fun e => hn.1 (e ▸ hy)
      exact (List.mem_erase_of_ne hne).2 (hm y (List.mem_cons_of_mem _ hy))
    rw [List.length_erase_of_mem hx] at ih
    have := List.length_pos_of_mem hx
    simp only [List.length_cons]
    omega
/-- a clique of conflicts has at most as many elements as there are classes -/
theorem clique_le {l : List Corr} {ls : List Int} (h : Asg l ls) {ap : List Nat} (h1 : ∀ i ∈ ap, i < l.length) (h2 : ap.Pairwise fun i j => i < j ∧ fitR (cellsAt l i) (cellsAt l j) = false) : ap.length ≤ manyC ls ls.length := by
  have hn : (ap.map fun i => (ls.getD i 0).toNat).Nodup := by
    rw [List.nodup_iff_pairwise_ne, List.pairwise_map]
    refine h2.imp_of_mem fun {i j} hi hj hh => ?_
    have hij := h.apart hh.1 (h1 j hj) hh.2
    obtain ⟨a, a1, _, _⟩ := h.can i (by have := h.len; have := h1 i hi; omega)
    obtain ⟨b, b1, _, _⟩ := h.can j (by have := h.len; have := h1 j hj; omega)
    rw [a1, b1] at hij ⊢
    simp only [Int.toNat_natCast]
    omega
  have := nodup_le _ ((List.range ls.length).filter fun i => decide (ls.getD i 0 = (i : Int))) hn fun x hx => by
    obtain ⟨i, hi, rfl⟩ := List.mem_map.1 hx
    have hil := h1 i hi
    have hl := h.len
    obtain ⟨a, a1, a2, a3⟩ := h.can i (by omega)
    rw [List.mem_filter, a1, Int.toNat_natCast]
    exact ⟨List.mem_range.2 (by omega), decide_eq_true a3⟩
  rw [List.length_map] at this
  exact this

/-- no conflict: one class -/
theorem many_zero (n : Nat) : ∀ k, k ≤ n → manyC (List.replicate n 0) k = min k 1
  | 0, _ => rfl
  | k + 1, hk => by
    have e : (List.replicate n (0 : Int)).getD k 0 = 0 := by simp [List.getD, show k < n by omega]
    rw [manyC_succ, many_zero n k (by omega), e]
    by_cases h : k = 0
    · subst h; rfl
    · rw [if_neg (by omega)]; omega
theorem zero_asg {l : List Corr} (h : ∀ i j, i < j → j < l.length → fitR (cellsAt l i) (cellsAt l j) = true) : Asg l (List.replicate l.length 0) := by
  have e : ∀ j, j < l.length → (List.replicate l.length (0 : Int)).getD j 0 = 0 := fun j hj => by simp [List.getD, hj]
  refine ⟨by simp, fun j hj => ⟨0, ?_, Nat.zero_le _, ?_⟩, ?_⟩
  · simp at hj; exact e j hj
  · simp at hj; exact e 0 (by omega)
  · rw [allowedR, all_range, List.length_replicate]
    intro a ha
    rw [rowOK, all_range]
    intro j hj
    rw [clash, fitR_symm, h j a hj ha]; simp
theorem many_pos {l : List Corr} {ls : List Int} (h : Asg l ls) : min l.length 1 ≤ manyC ls ls.length := by
  have hl := h.len
  by_cases h0 : l.length = 0
  · omega
  · have hc : ∀ k, 0 < k → k ≤ ls.length → 1 ≤ manyC ls k := by
      intro k
      induction k with
      | zero => intro h; omega
      | succ k ih =>
        intro _ hk
        rw [manyC_succ]
        by_cases hk0 : k = 0
        · subst hk0
          obtain ⟨a, a1, a2, _⟩ := h.can 0 (by omega)
          rw [if_pos (by omega)]; omega
        · have := ih (by omega) (by omega)
          omega
    have := hc ls.length (by omega) (Nat.le_refl _)
    omega
theorem ref_zero {l : List Corr} (h : ∀ i j, i < j → j < l.length → fitR (cellsAt l i) (cellsAt l j) = true) : ∀ i, i ≤ l.length → refAt l i = List.replicate i 0
  | 0, _ => rfl
  | i + 1, hi => by
    have ih := ref_zero h i (by omega)
    have hll := refAt_len l i
    rw [refAt, List.replicate_succ', ih]
    congr 2
    rw [refK]
    by_cases h0 : i = 0
    · subst h0; rfl
    · have : fitsR l (List.replicate i 0) i 0 = true := by
        have e : ∀ j, j < i → (List.replicate i (0 : Int)).getD j 0 = 0 := fun j hj => by simp [List.getD, hj]
        rw [fitsR, e 0 (by omega)]
        simp only [Int.natCast_zero, decide_true, Bool.true_and, goodTo]
        rw [all_range]
        intro j hj
        rw [badR, fitR_symm, h j i hj (by omega)]; simp
      rw [scan_hit _ this]; rfl
theorem few_zero {l : List Corr} (h : ∀ i j, i < j → j < l.length → fitR (cellsAt l i) (cellsAt l j) = true) : manyC (lblR l) (lblR l).length = min l.length 1 ∧ manyC (refAt l l.length) (refAt l l.length).length = min l.length 1 := by
  have hz := zero_asg h
  have hzm : manyC (List.replicate l.length 0) (List.replicate l.length (0 : Int)).length = min l.length 1 := by rw [List.length_replicate]; exact many_zero _ _ (Nat.le_refl _)
  obtain ⟨h1, h2⟩ := best_asg l
  have h3 := h2 _ hz
  have h4 := many_pos h1
  refine ⟨by omega, ?_⟩
  rw [ref_zero h l.length (Nat.le_refl _)]
  exact hzm

end Go.Cp
end
