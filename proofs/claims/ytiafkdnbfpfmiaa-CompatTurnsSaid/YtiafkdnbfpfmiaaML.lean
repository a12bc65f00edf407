/-
  Compat, plain: the patterns of an assignment know what their correspondences know, and have their counts. Conditions: none.
  Compat, plain: what is predicted. Conditions: none.
-/
import Derived.Test.YtiafkdnbfpfmiaaMJ
import Derived.Test.YtiafkdnbfpfmiaaMK

section
set_option linter.unusedVariables false
set_option linter.unusedSimpArgs false
namespace Go.Cp
open Go Go.Proofs Go.Vx

theorem knows_keep : ∀ {xs ys zs : List Cell}, xs.length = ys.length → (xs.zip zs).all knowP = true → ((joinR xs ys).zip zs).all knowP = true
  | [], [], zs, _, _ => by simp [joinR]
  | x :: xs, y :: ys, [], _, _ => by simp
  | x :: xs, y :: ys, z :: zs, hl, h => by
    simp only [List.zip_cons_cons, List.all_cons, Bool.and_eq_true] at h
    have ih := knows_keep (xs := xs) (ys := ys) (zs := zs) (by simpa using hl) h.2
    simp only [joinR, List.zipWith_cons_cons, List.zip_cons_cons, List.all_cons, Bool.and_eq_true] at ih ⊢
    refine ⟨?_, ih⟩
    have h1 := h.1
    simp only [knowP, Bool.or_eq_true, decide_eq_true_eq] at h1
    by_cases hz : z.kind = 0
    · simp [knowP, hz]
    · have hx : x = z := h1.resolve_left hz
      have e : joinQ x y = z := by rw [joinQ, if_neg (by rw [hx]; exact hz), hx]
      rw [e]; simp [knowP]
  | [], _ :: _, _, h, _ => by simp at h
  | _ :: _, [], _, h, _ => by simp at h
theorem knows_new : ∀ {xs ys : List Cell}, xs.length = ys.length → fitR xs ys = true → ((joinR xs ys).zip ys).all knowP = true
  | [], [], _, _ => by simp [joinR]
  | x :: xs, y :: ys, hl, h => by
    simp only [fitR, List.zip_cons_cons, List.all_cons, Bool.and_eq_true] at h
    have ih := knows_new (xs := xs) (ys := ys) (by simpa using hl) h.2
    simp only [joinR, List.zipWith_cons_cons, List.zip_cons_cons, List.all_cons, Bool.and_eq_true] at ih ⊢
    refine ⟨?_, ih⟩
    have h1 := h.1
    simp only [fitQ, Bool.or_eq_true, decide_eq_true_eq] at h1
    by_cases hx : x.kind = 0
    · have e : joinQ x y = y := if_pos hx
      rw [e]; simp [knowP]
    · have e : joinQ x y = x := if_neg hx
      rw [e]
      rcases h1 with h1 | h1 | h1
      · rw [h1]; simp [knowP]
      · exact absurd h1 hx
      · simp [knowP, h1]
  | [], _ :: _, h, _ => by simp at h
  | _ :: _, [], h, _ => by simp at h
theorem knows_self : ∀ xs : List Cell, (xs.zip xs).all knowP = true
  | [] => rfl
  | x :: xs => by
    simp only [List.zip_cons_cons, List.all_cons, knows_self xs]
    simp [knowP]

section
variable {l : List Corr} {m : Nat} {ls : List Int} (hF : Fine l m) (hA : Asg l ls)
include hF hA
theorem row_fit {k : Nat} (hk : k < l.length) (hd : ls.getD k 0 = (k : Int)) : ∀ i, k < i → i ≤ l.length → (rowTo' l ls k i).cells.length = m ∧
    (∀ zs : List Cell, zs.length = m → (fitR (rowTo' l ls k i).cells zs = true ↔ ∀ j, j < i → ls.getD j 0 = (k : Int) → fitR (cellsAt l j) zs = true)) ∧
    ∀ j, j < i → ls.getD j 0 = (k : Int) → ((rowTo' l ls k i).cells.zip (cellsAt l j)).all knowP = true
  | 0, h, _ => by omega
  | i + 1, h, hi => by
    have hl := hA.len
    by_cases hki : k < i
    · obtain ⟨h1, h2, h3⟩ := row_fit hk hd i hki (by omega)
      have hi' : i < l.length := by omega
      have hlen := hF.at_len hi'
      have hcl : cellsAt l i = (l.getD i Corr.zero).cells := rfl
      rw [rowTo'_succ]
      by_cases hli : ls.getD i 0 = (k : Int)
      · rw [if_pos ⟨hki, hli⟩]
        have hfit : fitR (rowTo' l ls k i).cells (cellsAt l i) = true := by
          rw [h2 _ hlen]
          intro j hj hlj
          cases hf : fitR (cellsAt l j) (cellsAt l i) with
          | true => rfl
          | false => exact absurd (by rw [hlj, hli]) (hA.apart hj hi' hf)
        simp only [addR, ← hcl]
        refine ⟨by rw [joinR_len (by omega)]; exact h1, fun zs hz => ?_, fun j hj hlj => ?_⟩
        · rw [fitR_join (by omega) (by omega) hfit, Bool.and_eq_true, h2 zs hz]
          refine ⟨fun hh j hj hlj => ?_, fun hh => ⟨fun j hj hlj => hh j (by omega) hlj, hh i (Nat.lt_succ_self i) hli⟩⟩
          rcases Nat.lt_succ_iff_lt_or_eq.1 hj with hj | hj
          · exact hh.1 j hj hlj
          · subst hj; exact hh.2
        · rcases Nat.lt_succ_iff_lt_or_eq.1 hj with hj | hj
          · exact knows_keep (by omega) (h3 j hj hlj)
          · subst hj; exact knows_new (by omega) hfit
      · rw [if_neg (fun hh => hli hh.2)]
        refine ⟨h1, fun zs hz => ?_, fun j hj hlj => ?_⟩
        · rw [h2 zs hz]
          refine ⟨fun hh j hj hlj => ?_, fun hh j hj hlj => hh j (by omega) hlj⟩
          rcases Nat.lt_succ_iff_lt_or_eq.1 hj with hj | hj
          · exact hh j hj hlj
          · subst hj; exact absurd hlj hli
        · rcases Nat.lt_succ_iff_lt_or_eq.1 hj with hj | hj
          · exact h3 j hj hlj
          · subst hj; exact absurd hlj hli
    · have hke : k = i := by omega
      subst hke
      rw [rowTo'_start l ls k (k + 1) (Nat.le_refl _)]
      have hone : ∀ j, j < k + 1 → ls.getD j 0 = (k : Int) → j = k := fun j hj hlj => by
        have := hA.can.le j (by omega)
        omega
      refine ⟨hF.at_len hk, fun zs hz => ⟨fun hh j hj hlj => ?_, fun hh => hh k (Nat.lt_succ_self k) hd⟩, fun j hj hlj => ?_⟩
      · rw [hone j hj hlj]; exact hh
      · rw [hone j hj hlj]; exact knows_self _
end

theorem outR_many (l : List Corr) (ls : List Int) : ∀ k, (outR l ls k).length = manyC ls k
  | 0 => rfl
  | k + 1 => by
    rw [outR_succ, manyC_succ, List.length_append, outR_many l ls k]
    split <;> rfl
theorem manyC_mono (ls : List Int) {i j : Nat} (h : i ≤ j) : manyC ls i ≤ manyC ls j := by
  induction j with
  | zero => rw [Nat.le_zero.1 h]; exact Nat.le_refl _
  | succ j ih =>
    rw [manyC_succ]
    by_cases hij : i = j + 1
    · subst hij; rw [manyC_succ]; exact Nat.le_refl _
    · have := ih (by omega)
      omega
theorem outR_at (l : List Corr) (ls : List Int) {k : Nat} (hd : ls.getD k 0 = (k : Int)) : ∀ n, k < n → manyC ls k < (outR l ls n).length ∧ (outR l ls n).getD (manyC ls k) Corr.zero = rowTo' l ls k l.length
  | 0, h => by omega
  | n + 1, h => by
    rw [outR_succ]
    by_cases hkn : k < n
    · obtain ⟨h1, h2⟩ := outR_at l ls hd n hkn
      refine ⟨by rw [List.length_append]; omega, ?_⟩
      rw [← h2]
      simp only [List.getD, List.getElem?_append_left h1]
    · have hke : k = n := by omega
      subst hke
      rw [if_pos hd]
      refine ⟨by rw [List.length_append, outR_many]; simp, ?_⟩
      have := outR_many l ls k
      simp only [List.getD]
      rw [List.getElem?_append_right (by omega), this, Nat.sub_self]; rfl

/-! sums of counts -/
def sumN (f : Nat → Int) : Nat → Int
  | 0 => 0
  | n + 1 => sumN f n + f n
theorem sumN_congr {f g : Nat → Int} : ∀ n, (∀ k, k < n → f k = g k) → sumN f n = sumN g n
  | 0, _ => rfl
  | n + 1, h => by rw [sumN, sumN, sumN_congr n fun k hk => h k (by omega), h n (by omega)]
theorem sumN_one {f g : Nat → Int} {q : Nat} {c : Int} : ∀ n, q < n → (∀ k, k < n → k ≠ q → f k = g k) → f q = g q + c → sumN f n = sumN g n + c
  | 0, h, _, _ => by omega
  | n + 1, h, h1, h2 => by
    rw [sumN, sumN]
    by_cases hq : q = n
    · subst hq
      rw [sumN_congr q fun k hk => h1 k (by omega) (by omega), h2]; omega
    · rw [sumN_one n (by omega) (fun k hk => h1 k (by omega)) h2, h1 n (by omega) (by omega)]; omega
def cntAt (l : List Corr) (ls : List Int) (i k : Nat) : Int := if ls.getD k 0 = (k : Int) then (rowTo' l ls k i).count else 0
theorem sum_reps {l : List Corr} {ls : List Int} (hC : Can ls) (hl : ls.length = l.length) : ∀ i, i ≤ l.length → sumN (cntAt l ls i) i = sumN (fun j => (l.getD j Corr.zero).count) i
  | 0, _ => rfl
  | i + 1, hi => by
    have ih := sum_reps hC hl i (by omega)
    obtain ⟨k, h1, h2, h3⟩ := hC i (by omega)
    rw [sumN, sumN, ← ih]
    by_cases hki : k = i
    · subst hki
      have e1 : cntAt l ls (k + 1) k = (l.getD k Corr.zero).count := by rw [cntAt, if_pos h1, rowTo'_start l ls k (k + 1) (Nat.le_refl _)]
      rw [e1, sumN_congr k fun q hq => ?_]
      rw [cntAt, cntAt]
      split
      · rw [rowTo'_succ, if_neg (fun hh => by have := hh.2; rw [h1] at this; omega)]
      · rfl
    · have hlt : k < i := by omega
      have e1 : cntAt l ls (i + 1) i = 0 := by rw [cntAt, if_neg (by rw [h1]; omega)]
      rw [e1, sumN_one (g := cntAt l ls i) (q := k) (c := (l.getD i Corr.zero).count) i hlt (fun q hq hqk => ?_) ?_]
      · omega
      · rw [cntAt, cntAt, if_pos h3, if_pos h3, rowTo'_succ, if_pos ⟨hlt, h1⟩]; rfl
      · rw [cntAt, cntAt]
        split
        · rw [rowTo'_succ, if_neg (fun hh => by have := hh.2; rw [h1] at this; omega)]
        · rfl
def sumL (ps : List Corr) (n : Nat) : Int := sumN (fun j => (ps.getD j Corr.zero).count) n
theorem sumL_app (ps : List Corr) (c : Corr) : ∀ n, n ≤ ps.length → sumL (ps ++ [c]) n = sumL ps n
  | n, h => sumN_congr n fun k hk => by simp only [List.getD, List.getElem?_append_left (show k < ps.length by omega)]
theorem sum_out (l : List Corr) (ls : List Int) : ∀ k, sumL (outR l ls k) (outR l ls k).length = sumN (cntAt l ls l.length) k
  | 0 => rfl
  | k + 1 => by
    rw [outR_succ, sumN, ← sum_out l ls k]
    by_cases hd : ls.getD k 0 = (k : Int)
    · rw [if_pos hd, List.length_append, cntAt, if_pos hd]
      simp only [List.length_cons, List.length_nil]
      rw [Nat.zero_add, sumL, sumN]
      have h1 := sumL_app (outR l ls k) (rowTo' l ls k l.length) _ (Nat.le_refl _)
      rw [sumL] at h1
      rw [h1]
      congr 2
      simp [List.getD]
    · rw [if_neg hd, List.append_nil, cntAt, if_neg hd]; omega
theorem sum_all {l : List Corr} {ls : List Int} (hC : Can ls) (hl : ls.length = l.length) : sumL (outR l ls l.length) (outR l ls l.length).length = sumL l l.length := by
  rw [sum_out, sum_reps hC hl _ (Nat.le_refl _)]; rfl
theorem sumL_bound {ps : List Corr} {b : Int} (h : ∀ c ∈ ps, 0 ≤ c.count ∧ c.count ≤ b) : ∀ n, n ≤ ps.length → 0 ≤ sumL ps n ∧ sumL ps n ≤ n * b
  | 0, _ => by simp [sumL, sumN]
  | n + 1, hn => by
    have ih := sumL_bound h n (by omega)
    have hc := h _ (getD_mem (z := Corr.zero) (show n < ps.length by omega))
    rw [sumL] at ih ⊢
    rw [sumN]
    have e : ((n + 1 : Nat) : Int) * b = n * b + b := by rw [Int.natCast_add, Int.add_mul]; simp
    rw [e]
    constructor <;> omega

theorem zeros_allowed (l : List Corr) : allowedR l (List.replicate l.length 0) = true ↔ ∀ i j, i < j → j < l.length → fitR (cellsAt l i) (cellsAt l j) = true := by
  refine ⟨fun h i j hij hj => ?_, fun h => (zero_asg h).ok⟩
  rw [allowedR, all_range, List.length_replicate] at h
  have := h j hj
  rw [rowOK, all_range] at this
  have := this i hij
  have e : ∀ j, j < l.length → (List.replicate l.length (0 : Int)).getD j 0 = 0 := fun j hj => by simp [List.getD, hj]
  rw [clash, e j hj, e i (by omega), decide_eq_true rfl, Bool.true_and, Bool.not_not, fitR_symm] at this
  exact this
theorem zeros_can (n : Nat) : Can (List.replicate n 0) := fun j hj => by
  simp at hj
  exact ⟨0, by simp [List.getD, hj], Nat.zero_le _, by simp [List.getD, show 0 < n by omega]⟩
theorem digC_in (d : Nat) : (digC d).In := by
  unfold digC
  split
  · exact ⟨by decide, by decide, by decide, by decide⟩
  · split
    · exact ⟨by decide, by decide, by decide, by decide⟩
    · split <;> exact ⟨by decide, by decide, by decide, by decide⟩
theorem made_in {l : List Nat} : ∀ c ∈ madeC l, c.In := fun c hc x hx => by
  obtain ⟨n, _, rfl⟩ := List.mem_map.1 hc
  obtain ⟨j, _, rfl⟩ := List.mem_map.1 hx
  exact digC_in _

end Go.Cp
end

section
set_option linter.unusedVariables false
set_option linter.unusedSimpArgs false
namespace Go.Cp
open Go Go.Proofs Go.Vx

def allOf (s : List (List Cell)) (k : Nat) : Bool := s.all fun c => decide (c.getD k Cell.zero = atC s 0 k)
theorem atC_nil (k : Nat) : atC [] 0 k = Cell.zero := by simp [atC]
theorem atC_front {s : List (List Cell)} {c : List Cell} {k : Nat} (h : 0 < s.length) : atC (s ++ [c]) 0 k = atC s 0 k := by
  simp only [atC, List.getD, List.getElem?_append_left h]
theorem atC_first {c : List Cell} {k : Nat} : atC ([] ++ [c]) 0 k = c.getD k Cell.zero := by simp [atC]
theorem allOf_nil (k : Nat) : allOf [] k = true := rfl
theorem allOf_one (c : List Cell) (k : Nat) : allOf ([] ++ [c]) k = true := by
  rw [allOf, atC_first]
  simp
theorem allOf_app {s : List (List Cell)} {c : List Cell} {k : Nat} (h : 0 < s.length) : allOf (s ++ [c]) k = (allOf s k && decide (c.getD k Cell.zero = atC s 0 k)) := by
  rw [allOf, atC_front h, List.all_append, allOf]
  simp only [List.all_cons, List.all_nil, Bool.and_true]
theorem cellTo_all (s : List (List Cell)) (k : Nat) : ∀ i, i ≤ s.length → cellTo s k i = if (∀ j, j < i → atC s j k = atC s 0 k) then atC s 0 k else Cell.zero
  | 0, _ => by rw [if_pos (fun j hj => by omega)]; simp [cellTo]
  | i + 1, hi => by
    rw [cellTo_succ, cellTo_all s k i (by omega)]
    by_cases h : ∀ j, j < i → atC s j k = atC s 0 k
    · rw [if_pos h]
      by_cases hh : atC s i k = atC s 0 k
      · rw [if_pos hh, if_pos (fun j hj => by
          rcases Nat.lt_succ_iff_lt_or_eq.1 hj with hj | hj
          · exact h j hj
          · subst hj; exact hh)]
      · rw [if_neg hh, if_neg (fun hx => hh (hx i (Nat.lt_succ_self i)))]
    · rw [if_neg h, ite_self, if_neg (fun hx => h fun j hj => hx j (by omega))]
theorem allOf_iff {s : List (List Cell)} {k : Nat} : allOf s k = true ↔ ∀ j, j < s.length → atC s j k = atC s 0 k := by
  rw [allOf, List.all_eq_true]
  refine ⟨fun h j hj => ?_, fun h c hc => ?_⟩
  · have := h (s.getD j []) (getD_mem hj)
    rw [decide_eq_true_eq] at this
    exact this
  · obtain ⟨j, hj⟩ := List.getElem?_of_mem hc
    have hl := (List.getElem?_eq_some_iff.1 hj).1
    have := h j hl
    have e : atC s j k = c.getD k Cell.zero := by rw [atC, show s.getD j [] = c from by rw [List.getD, hj]; rfl]
    rw [decide_eq_true_eq, ← e]; exact this
theorem cell_sum {s : List (List Cell)} {k : Nat} : cellTo s k s.length = if allOf s k = true then atC s 0 k else Cell.zero := by
  rw [cellTo_all s k _ (Nat.le_refl _)]
  by_cases h : allOf s k = true
  · rw [if_pos h, if_pos (allOf_iff.1 h)]
  · rw [if_neg h, if_neg (fun hh => h (allOf_iff.2 hh))]

theorem fitR_iff : ∀ {xs ys : List Cell}, xs.length = ys.length → (fitR xs ys = true ↔ ∀ q, q < xs.length → fitQ (xs.getD q Cell.zero, ys.getD q Cell.zero) = true)
  | [], [], _ => by simp [fitR]
  | x :: xs, y :: ys, h => by
    have ih := fitR_iff (xs := xs) (ys := ys) (by simpa using h)
    simp only [fitR, List.zip_cons_cons, List.all_cons, Bool.and_eq_true] at ih ⊢
    rw [ih]
    refine ⟨fun hh q hq => ?_, fun hh => ⟨hh 0 (by simp), fun q hq => hh (q + 1) (by simpa using hq)⟩⟩
    cases q with
    | zero => exact hh.1
    | succ q => exact hh.2 q (by simpa using hq)
  | [], _ :: _, h => by simp at h
  | _ :: _, [], h => by simp at h
theorem valid_iff {xs : List Cell} : xs.all validC = true ↔ ∀ q, q < xs.length → validC (xs.getD q Cell.zero) = true := by
  rw [List.all_eq_true]
  refine ⟨fun h q hq => h _ (getD_mem hq), fun h c hc => ?_⟩
  obtain ⟨q, hq⟩ := List.getElem?_of_mem hc
  have := h q (List.getElem?_eq_some_iff.1 hq).1
  rwa [List.getD, hq] at this
theorem zero_valid : validC Cell.zero = true := by kernel_rfl
theorem sum_valid {m : Nat} {s : List (List Cell)} {d : List Cell} (hd : Sum m s (some d)) (hs : ∀ c ∈ s, c.all validC = true ∧ c.length = m) : d.all validC = true := by
  obtain ⟨h1, h2, h3⟩ := hd
  rw [valid_iff]
  intro q hq
  rw [h3 q (by omega), cell_sum]
  split
  · obtain ⟨v1, v2⟩ := hs _ (getD_mem (z := []) h1)
    exact valid_iff.1 v1 q (by omega)
  · exact zero_valid
/-- what fits what was known fits what is predicted -/
theorem sum_fit {m : Nat} {s : List (List Cell)} {d z c : List Cell} (hd : Sum m s (some d)) (hz : z.length = m) (hzv : z.all validC = true) (hc : c ∈ s) (hcl : c.length = m) (hf : fitR c z = true) : fitR c (joinC z d) = true := by
  obtain ⟨h1, h2, h3⟩ := hd
  have hjl : (joinC z d).length = m := by rw [joinC_len (by omega)]; exact hz
  rw [fitR_iff (by omega)] at hf ⊢
  intro q hq
  have hzq := valid_iff.1 hzv q (by omega)
  have e : (joinC z d).getD q Cell.zero = joinP (z.getD q Cell.zero) (d.getD q Cell.zero) := zipF_getD joinP (by omega) (by omega)
  rw [e]
  by_cases hk : z.getD q Cell.zero = Cell.zero
  · have e2 : joinP (z.getD q Cell.zero) (d.getD q Cell.zero) = d.getD q Cell.zero := if_pos hk
    rw [e2, h3 q (by omega), cell_sum]
    by_cases ha : allOf s q = true
    · rw [if_pos ha]
      have := List.all_eq_true.1 ha c hc
      rw [decide_eq_true_eq] at this
      rw [this]; simp [fitQ]
    · rw [if_neg ha]; simp [fitQ, Cell.zero]
  · have e2 : joinP (z.getD q Cell.zero) (d.getD q Cell.zero) = z.getD q Cell.zero := if_neg hk
    rw [e2]; exact hf q hq
theorem knowsC_left {a b : List Cell} (hl : a.length ≤ b.length) (hv : a.all validC = true) : knowsC (joinC a b) a = true := by
  rw [knowsC, decide_eq_true (joinC_len hl), Bool.true_and]
  induction a generalizing b with
  | nil => cases b <;> rfl
  | cons x a ih =>
    cases b with
    | nil => simp at hl
    | cons y b =>
      simp only [List.all_cons, Bool.and_eq_true] at hv
      have := ih (b := b) (by simpa using hl) hv.2
      simp only [joinC, List.zipWith_cons_cons, List.zip_cons_cons, List.all_cons] at this ⊢
      rw [this, Bool.and_true]
      simp only [knowP, Bool.or_eq_true, decide_eq_true_eq]
      by_cases hx : x = Cell.zero
      · left; rw [hx]; rfl
      · right; exact if_neg hx
theorem someTo_mem {l : List Corr} {z : List Cell} {k : Nat} {c : List Cell} (h : c ∈ someTo l z k) : (∃ d ∈ l, c = d.cells) ∧ fitR c z = true := by
  obtain ⟨d, hd, rfl⟩ := List.mem_map.1 h
  rw [List.mem_filter] at hd
  exact ⟨⟨d, List.mem_of_mem_take hd.1, rfl⟩, hd.2⟩
theorem someTo_of {l : List Corr} {z : List Cell} {d : Corr} (hd : d ∈ l) (hf : fitR d.cells z = true) : d.cells ∈ someTo l z l.length := by
  rw [someTo, List.take_length]
  exact List.mem_map.2 ⟨d, List.mem_filter.2 ⟨hd, hf⟩, rfl⟩

/-- all that the law needs: predicting twice -/
theorem predict_twice {l : List Corr} {z : List Cell} (hF : Fine l z.length) (hl : checkC l 256 = 0) (hz : z.all validC = true) (hh : l ≠ [] → headLen l = z.length) :
    (someTo l z l.length = [] → predE l z = 5 ∧ predO l z = []) ∧
    (someTo l z l.length ≠ [] → predE l z = 0 ∧ (predO l z).length = z.length ∧ knowsC (predO l z) z = true ∧ (∀ k, k < z.length → (z.getD k Cell.zero).kind = 0 → (predO l z).getD k Cell.zero = if allOf (someTo l z l.length) k = true then atC (someTo l z l.length) 0 k else Cell.zero) ∧
      (predO l z).all validC = true ∧ predE l (predO l z) = 0 ∧ knowsC (predO l (predO l z)) (predO l z) = true) := by
  have hE : ∀ x : List Cell, x.all validC = true → x.length = z.length → predE l x = if (predTo l x l.length).isSome = true then 0 else 5 := fun x hx hxl => by
    have hb : predBad l x = false := by
      rw [predBad, hx]
      by_cases h0 : l = []
      · subst h0; rfl
      · rw [show decide (headLen l = x.length) = true from decide_eq_true (by rw [hxl]; exact hh h0)]; simp
    rw [predE, if_neg (by simpa using hl), hb]; rfl
  have hS := pred_sum hF hz l.length (Nat.le_refl _)
  have e1 := hE z hz rfl
  refine ⟨fun hs => ?_, fun hs => ?_⟩
  · rw [hs] at hS
    cases hp : predTo l z l.length with
    | none =>
      rw [hp] at e1
      have e2 : predE l z = 5 := e1
      exact ⟨e2, by rw [predO, e2]; rfl⟩
    | some d =>
      rw [hp] at hS
      have := hS.1
      simp at this
  · cases hp : predTo l z l.length with
    | none =>
      rw [hp] at hS
      exact absurd hS hs
    | some d =>
      rw [hp] at hS e1
      have e2 : predE l z = 0 := e1
      have e3 : predO l z = joinC z d := by rw [predO, if_pos e2, hp]; rfl
      obtain ⟨h1, h2, h3⟩ := id hS
      have hmem : ∀ c ∈ someTo l z l.length, c.all validC = true ∧ c.length = z.length := fun c hc => by
        obtain ⟨⟨q, hq, rfl⟩, _⟩ := someTo_mem hc
        exact ⟨hF.ok q hq, hF.len q hq⟩
      have hdv := sum_valid hS hmem
      have hjv : (joinC z d).all validC = true := by rw [join_same hz]; exact valid_join hz hdv
      have hjl : (joinC z d).length = z.length := joinC_len (by omega)
      rw [e3]
      refine ⟨e2, hjl, knowsC_left (by omega) hz, fun k hk hk0 => ?_, hjv, ?_⟩
      · have hzk := valid_iff.1 hz k hk
        have e4 : (joinC z d).getD k Cell.zero = joinP (z.getD k Cell.zero) (d.getD k Cell.zero) := zipF_getD joinP (by omega) (by omega)
        have e5 : joinP (z.getD k Cell.zero) (d.getD k Cell.zero) = d.getD k Cell.zero := if_pos ((kind_zero hzk).1 hk0)
        rw [e4, e5, h3 k hk, cell_sum]
      · obtain ⟨c, hc⟩ : ∃ c, c ∈ someTo l z l.length := by
          cases hx : someTo l z l.length with
          | nil => exact absurd hx hs
          | cons c r => exact ⟨c, List.mem_cons_self ..⟩
        obtain ⟨⟨q, hq, rfl⟩, hf⟩ := someTo_mem hc
        have hfit := sum_fit hS rfl hz hc (hF.len q hq) hf
        have hin := someTo_of hq hfit
        have hF2 : Fine l (joinC z d).length := by rw [hjl]; exact hF
        have hS2 := pred_sum hF2 hjv l.length (Nat.le_refl _)
        have e6 := hE _ hjv hjl
        cases hp2 : predTo l (joinC z d) l.length with
        | none =>
          rw [hp2] at hS2
          rw [show someTo l (joinC z d) l.length = [] from hS2] at hin
          cases hin
        | some d2 =>
          rw [hp2] at e6 hS2
          have e7 : predE l (joinC z d) = 0 := e6
          refine ⟨e7, ?_⟩
          rw [predO, if_pos e7, hp2]
          exact knowsC_left (by have := hS2.2.1; simp only [Option.getD_some]; omega) hjv

end Go.Cp
end
