/-
  Syll: plain laws about the syllables of a word: they follow one another; onsets are as long as they can be; the stress. Conditions: none.
-/
import Derived.Test.YtmiieofmhncfbaaMG

section
set_option linter.unusedVariables false
set_option linter.unusedSimpArgs false
set_option maxHeartbeats 4000000
namespace Go.Cp
open Go Go.Proofs Go.Vx

/-- where the k-th syllable begins, by the one before it -/
def atN (ss : List Syl) : Nat → Nat
  | 0 => 0
  | k + 1 => (ss.getD k Syl.zero).e
theorem sylsTo_get (lv ps : List Nat) (n : Nat) {m k : Nat} (h : k < m) : (sylsTo lv ps n m).getD k Syl.zero = sylK lv ps n k := by
  simp [sylsTo, List.getD, h]
theorem split_none {p : Int} {lv : List Nat} (h : (peaksL p lv).length = 0) (k : Nat) (hk : k < (splitL p lv).length) : k = 0 ∧ (splitL p lv).getD k Syl.zero = ⟨0, lv.length, lv.length, lv.length⟩ ∧ 0 < lv.length ∧ (splitL p lv).length = 1 := by
  rw [splitL, if_pos h] at hk ⊢
  by_cases h0 : lv.length = 0
  · rw [if_pos h0] at hk; simp at hk
  · rw [if_neg h0] at hk ⊢
    have hk0 : k = 0 := by simpa using hk
    subst hk0
    exact ⟨rfl, rfl, by omega, rfl⟩
theorem split_some {p : Int} {lv : List Nat} (h : ¬ (peaksL p lv).length = 0) : (splitL p lv).length = (peaksL p lv).length ∧ ∀ k, k < (peaksL p lv).length → (splitL p lv).getD k Syl.zero = sylK lv (peaksL p lv) lv.length k := by
  rw [splitL, if_neg h]
  exact ⟨sylsTo_len _ _ _ _, fun k hk => sylsTo_get _ _ _ hk⟩
theorem split_begin {p : Int} {lv : List Nat} {k : Nat} (hk : k < (splitL p lv).length) : ((splitL p lv).getD k Syl.zero).b = atN (splitL p lv) k := by
  by_cases h : (peaksL p lv).length = 0
  · obtain ⟨rfl, h1, _⟩ := split_none h k hk
    rw [h1]; rfl
  · obtain ⟨h1, h2⟩ := split_some h
    rw [h1] at hk
    cases k with
    | zero => rw [h2 0 hk]; rfl
    | succ k =>
      rw [h2 (k + 1) hk, atN, h2 k (by omega)]
      show begN lv (peaksL p lv) (k + 1) = if k + 1 < (peaksL p lv).length then begN lv (peaksL p lv) (k + 1) else lv.length
      rw [if_pos hk]
theorem split_end (p : Int) (lv : List Nat) : atN (splitL p lv) (splitL p lv).length = lv.length := by
  by_cases h : (peaksL p lv).length = 0
  · rw [splitL, if_pos h]
    by_cases h0 : lv.length = 0
    · rw [if_pos h0, h0]; rfl
    · rw [if_neg h0]; rfl
  · obtain ⟨h1, h2⟩ := split_some h
    obtain ⟨m, hm⟩ : ∃ m, (peaksL p lv).length = m + 1 := ⟨(peaksL p lv).length - 1, by omega⟩
    rw [h1, hm, atN, h2 m (by omega)]
    show (if m + 1 < (peaksL p lv).length then begN lv (peaksL p lv) (m + 1) else lv.length) = _
    rw [if_neg (by omega)]
theorem split_number (p : Int) (lv : List Nat) : (splitL p lv).length = if (peaksL p lv).length = 0 then (if lv.length = 0 then 0 else 1) else (peaksL p lv).length := by
  rw [splitL]
  split
  · split <;> rfl
  · exact sylsTo_len _ _ _ _
theorem split_facts {p : Int} {lv : List Nat} {k : Nat} (hk : k < (splitL p lv).length) :
    ((splitL p lv).getD k Syl.zero).b < ((splitL p lv).getD k Syl.zero).e ∧ (((splitL p lv).getD k Syl.zero).a = ((splitL p lv).getD k Syl.zero).e → (peaksL p lv).length = 0 ∧ ((splitL p lv).getD k Syl.zero).c = ((splitL p lv).getD k Syl.zero).e) ∧
      (((splitL p lv).getD k Syl.zero).a ≠ ((splitL p lv).getD k Syl.zero).e → p ≤ (lv.getD ((splitL p lv).getD k Syl.zero).a 0 : Int)) := by
  by_cases h : (peaksL p lv).length = 0
  · obtain ⟨rfl, h1, h2, _⟩ := split_none h k hk
    rw [h1]
    exact ⟨h2, fun _ => ⟨h, rfl⟩, fun hn => absurd rfl hn⟩
  · obtain ⟨h1, h2⟩ := split_some h
    have hin := splitL_in (p := p) (lv := lv) (getD_mem Syl.zero hk)
    rw [h1] at hk
    rw [h2 k hk] at hin ⊢
    have hat := filter_at (P := fun i => decide (p ≤ (lv.getD i 0 : Int))) (n := lv.length) (k := k) hk
    rw [← peaksL] at hat
    have hae : (sylK lv (peaksL p lv) lv.length k).a < (sylK lv (peaksL p lv) lv.length k).e := by
      have hc : (sylK lv (peaksL p lv) lv.length k).c = (sylK lv (peaksL p lv) lv.length k).a + 1 := rfl
      have := hin.2.2.1
      omega
    refine ⟨by have := hin.1; omega, fun he => ?_, fun _ => ?_⟩
    · omega
    · exact of_decide_eq_true hat.2
theorem downE_stop (lv : List Nat) (a : Nat) : ∀ n, a < n → downE lv a n = a + 1 ∨ (a + 1 < downE lv a n ∧ lv.getD (downE lv a n) 0 ≤ lv.getD (downE lv a n - 1) 0)
  | 0, h => absurd h (by omega)
  | e + 1, h => by
    rw [downE]
    by_cases hc : e = a ∨ lv.getD (e + 1) 0 ≤ lv.getD e 0
    · rw [if_pos hc]
      by_cases he : e = a
      · left; omega
      · right
        refine ⟨by omega, ?_⟩
        rw [Nat.add_sub_cancel]
        exact hc.resolve_left he
    · rw [if_neg hc]
      exact downE_stop lv a e (by
        have : e ≠ a := fun h => hc (.inl h)
        omega)
theorem split_onset {p : Int} {lv : List Nat} {k : Nat} (hk : k + 1 < (splitL p lv).length) (s : Syl) (hs : (splitL p lv).getD (k + 1) Syl.zero = s) :
    1 ≤ s.b ∧ s.b ≤ s.a ∧ s.a < lv.length ∧ (∀ i, s.b < i → i ≤ s.a → lv.getD (i - 1) 0 < lv.getD i 0) ∧ ¬ ((lv.getD (s.b - 1) 0 : Int) < p ∧ lv.getD (s.b - 1) 0 < lv.getD s.b 0) := by
  by_cases h : (peaksL p lv).length = 0
  · obtain ⟨h0, _⟩ := split_none h (k + 1) hk
    omega
  · obtain ⟨h1, h2⟩ := split_some h
    rw [h1] at hk
    rw [h2 (k + 1) hk] at hs
    subst hs
    have hb := filter_between (P := fun i => decide (p ≤ (lv.getD i 0 : Int))) (n := lv.length) (k := k) hk
    have ha := filter_at (P := fun i => decide (p ≤ (lv.getD i 0 : Int))) (n := lv.length) (k := k + 1) hk
    have h0 := filter_at (P := fun i => decide (p ≤ (lv.getD i 0 : Int))) (n := lv.length) (k := k) (by rw [peaksL] at hk; omega)
    rw [← peaksL] at hb ha h0
    show 1 ≤ downE _ _ _ ∧ downE _ _ _ ≤ (peaksL p lv).getD (k + 1) 0 ∧ (peaksL p lv).getD (k + 1) 0 < _ ∧ (∀ i, downE _ _ _ < i → i ≤ (peaksL p lv).getD (k + 1) 0 → _) ∧ ¬ ((lv.getD (downE _ _ _ - 1) 0 : Int) < p ∧ lv.getD (downE _ _ _ - 1) 0 < lv.getD (downE _ _ _) 0)
    have hge := downE_ge lv _ _ hb.1
    refine ⟨by omega, downE_le _ _ _, ha.1, fun i h1 h2 => downE_down lv _ _ hge _ (Nat.le_refl _) i h1 h2, ?_⟩
    rcases downE_stop lv _ _ hb.1 with he | ⟨_, he⟩
    · rw [he, Nat.add_sub_cancel]
      have : p ≤ (lv.getD ((peaksL p lv).getD k 0) 0 : Int) := by simpa using h0.2
      omega
    · omega

/-! ### the stress -/
theorem firstH_none {hv : List Bool} (h : hv.any id = false) : firstH hv = 0 := by
  rw [firstH, h]; rfl
theorem firstH_le {hv : List Bool} {i : Nat} (hi : hv.getD i false = true) : firstH hv ≤ i := by
  have hl : i < hv.length := by
    apply Classical.byContradiction; intro hn
    rw [List.getD, List.getElem?_eq_none (by omega)] at hi; cases hi
  rw [firstH]
  split
  · apply Classical.byContradiction; intro hn
    have := List.not_of_lt_findIdx (p := id) (xs := hv) (i := i) (by omega)
    rw [getD_of false hv i hl] at hi
    simp [hi] at this
  · omega
theorem firstH_is {hv : List Bool} (h : hv.any id = true) : firstH hv < hv.length ∧ hv.getD (firstH hv) false = true := by
  have hlt : hv.findIdx id < hv.length := by
    rw [List.findIdx_lt_length]
    simpa using h
  rw [firstH, if_pos h]
  refine ⟨hlt, ?_⟩
  rw [getD_of false hv _ hlt]
  simpa using List.findIdx_getElem (w := hlt)
theorem lastTo_some {hv : List Bool} : ∀ {k j : Nat}, lastTo hv k = some j → j < k ∧ hv.getD j false = true ∧ ∀ i, j < i → i < k → hv.getD i false = false
  | 0, j, h => by cases h
  | k + 1, j, h => by
    rw [lastTo] at h
    split at h
    · rename_i hb
      injection h with h
      subst h
      exact ⟨by omega, hb, fun i h1 h2 => by omega⟩
    · rename_i hb
      obtain ⟨h1, h2, h3⟩ := lastTo_some h
      refine ⟨by omega, h2, fun i h4 h5 => ?_⟩
      by_cases hik : i = k
      · subst hik; simpa using hb
      · exact h3 i h4 (by omega)
theorem lastTo_none {hv : List Bool} : ∀ {k : Nat}, lastTo hv k = none → ∀ i, i < k → hv.getD i false = false
  | 0, _, i, h => by omega
  | k + 1, h, i, hi => by
    rw [lastTo] at h
    split at h
    · cases h
    · rename_i hb
      by_cases hik : i = k
      · subst hik; simpa using hb
      · exact lastTo_none h i (by omega)
theorem any_getD {hv : List Bool} : hv.any id = true ↔ ∃ i, i < hv.length ∧ hv.getD i false = true := by
  rw [List.any_eq_true]
  constructor
  · rintro ⟨b, hb, hi⟩
    obtain ⟨i, hi2, rfl⟩ := List.mem_iff_getElem.1 hb
    exact ⟨i, hi2, by rw [getD_of false hv i hi2]; exact hi⟩
  · rintro ⟨i, hi, hb⟩
    rw [getD_of false hv i hi] at hb
    exact ⟨_, List.getElem_mem hi, hb⟩
theorem lastH_none {hv : List Bool} (h : hv.any id = false) : lastH hv = hv.length - 1 := by
  rw [lastH]
  cases hl : lastTo hv hv.length with
  | none => rfl
  | some j =>
    obtain ⟨h1, h2, _⟩ := lastTo_some hl
    rw [any_getD.2 ⟨j, h1, h2⟩] at h; cases h
theorem lastH_is {hv : List Bool} (h : hv.any id = true) : lastH hv < hv.length ∧ hv.getD (lastH hv) false = true ∧ ∀ i, hv.getD i false = true → i ≤ lastH hv := by
  rw [lastH]
  cases hl : lastTo hv hv.length with
  | none =>
    obtain ⟨i, hi, hb⟩ := any_getD.1 h
    rw [lastTo_none hl i hi] at hb; cases hb
  | some j =>
    obtain ⟨h1, h2, h3⟩ := lastTo_some hl
    refine ⟨h1, h2, fun i hi => ?_⟩
    show i ≤ j
    apply Classical.byContradiction; intro hn
    by_cases hil : i < hv.length
    · rw [h3 i (by omega) hil] at hi; cases hi
    · rw [List.getD, List.getElem?_eq_none (by omega)] at hi; cases hi
theorem stressT_lt {hv : List Bool} (h : 0 < hv.length) (m : Int) : stressT hv m < hv.length := by
  rw [stressT]
  have h5 : firstH hv < hv.length := by
    cases ha : hv.any id with
    | true => exact (firstH_is ha).1
    | false => rw [firstH_none ha]; exact h
  have h6 : lastH hv < hv.length := by
    cases ha : hv.any id with
    | true => exact (lastH_is ha).1
    | false => rw [lastH_none ha]; omega
  repeat' split
  all_goals omega
end Go.Cp
end
