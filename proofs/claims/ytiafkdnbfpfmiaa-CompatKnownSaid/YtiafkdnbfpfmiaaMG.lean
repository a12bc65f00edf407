/-
  Compat: the document's Fewest. Conditions: none.
  Compat: Fewest and its closure. Conditions: none.
  Compat: Patterns. Conditions: none.
-/
import Derived.Test.YtiafkdnbfpfmiaaMF
import Derived.Test.YtiafkdnbfpfmiaaMC

section
set_option linter.unusedVariables false
set_option linter.unusedSimpArgs false
set_option maxHeartbeats 4000000
set_option maxRecDepth 10000
namespace Go.Cp
open Go Go.Proofs Go.Vx

theorem FitC_self (bx : List (Nat × Box)) (d : D) : FitC bx d (.c d) = True := by
  apply eq_true
  unfold FitC
  split
  · exact .inl (by rename_i h; cases h; rfl)
  · rename_i h; cases h; rfl
  · rename_i h; cases h
  · rename_i h1 h2 h3; exact h2 d rfl

theorem callN_mut {P : Program} {d : Nat} {b : Box} {f : Nat} {raw : List AV} {o : Option (List AV × Upd)} {W : AV → Upd → S → Prop} {s : S} (h : CallMVC P E f raw W s) : stepR P E true d b W (callN f raw o) s := by
  cases o with
  | none => exact ⟨rfl, h⟩
  | some p => exact .inr ⟨rfl, h⟩

def fnd : Option (List Int) → D
  | none => .sc (.slice none 0 0)
  | some xs => .sl (xs.map num)
def better (labels : List Int) : Option (List Int) → Bool
  | none => true
  | some f => decide (manyC labels labels.length < manyC f f.length)
def bestR (l : List Corr) : Nat → List Int → Option (List Int) → Option (List Int)
  | 0, labels, found => if allowedR l labels then (if better labels found then some labels else found) else found
  | r + 1, labels, found => if allowedR l labels then (List.range (labels.length + 1)).foldl (fun f k => if k = labels.length ∨ labels.getD k 0 = (k : Int) then bestR l r (labels ++ [(k : Int)]) f else f) found else found
def bestFold (l : List Corr) (r : Nat) (labels : List Int) (found : Option (List Int)) (k : Nat) : Option (List Int) :=
  (List.range k).foldl (fun f k => if k = labels.length ∨ labels.getD k 0 = (k : Int) then bestR l r (labels ++ [(k : Int)]) f else f) found
theorem bestFold_succ (l : List Corr) (r : Nat) (labels : List Int) (found : Option (List Int)) (k : Nat) : bestFold l r labels found (k + 1) =
    if k = labels.length ∨ labels.getD k 0 = (k : Int) then bestR l r (labels ++ [(k : Int)]) (bestFold l r labels found k) else bestFold l r labels found k := by
  simp only [bestFold, List.range_succ, List.foldl_append, List.foldl_cons, List.foldl_nil]
theorem bestR_succ (l : List Corr) (r : Nat) (labels : List Int) (found : Option (List Int)) : bestR l (r + 1) labels found = if allowedR l labels then bestFold l r labels found (labels.length + 1) else found := rfl
theorem bestR_ne (l : List Corr) : ∀ (r : Nat) (labels : List Int) (found : Option (List Int)), labels.length + r = l.length → l ≠ [] → found ≠ some [] → bestR l r labels found ≠ some []
  | 0, labels, found, hr, hl, hf => by
    rw [bestR]
    split
    · split
      · intro h
        injection h with h
        rw [h] at hr
        exact hl (List.length_eq_zero_iff.1 (by simpa using hr.symm))
      · exact hf
    · exact hf
  | r + 1, labels, found, hr, hl, hf => by
    rw [bestR_succ]
    split
    · have : ∀ k, bestFold l r labels found k ≠ some [] := by
        intro k
        induction k with
        | zero => exact hf
        | succ k ih =>
          rw [bestFold_succ]
          split
          · exact bestR_ne l r _ _ (by rw [List.length_append]; simp only [List.length_cons, List.length_nil]; omega) hl ih
          · exact ih
      exact this _
    · exact hf

theorem allLen_num (xs : List Int) : AllLen 1 (xs.map num) := fun y hy => by
  obtain ⟨c, _, rfl⟩ := List.mem_map.1 hy
  rfl

theorem best_ok (l : List Corr) (m : Nat) (hm : ∀ c ∈ l, c.cells.length = m) (hn : l.length ≤ 8) : ∀ (r : Nat) (labels : List Int) (found : Option (List Int)), labels.length + r = l.length → (l ≠ [] → found ≠ some []) → (l = [] → found = none) →
    OkM Try.prog E 47 [.c (corrs l), .c (nums labels), .c (fnd found)] [] (.c (fnd (bestR l r labels found))) [] := by
  intro r
  induction r with
  | zero =>
    intro labels found hr hf1 hf2
    refine okM_of_vc (L := []) (ts := [6]) envOK mixed Try.func47 rfl (by kernel_rfl) rfl (by decide) (by kernel_rfl) rfl fun hl hlb => ?_
    have hlen : labels.length = l.length := by omega
    have hbe : ((labels.length : Int) == (l.length : Int)) = true := by rw [hlen]; exact beq_self_eq_true _
    simp only [Try.f47, FitC_self, hbe, VL, VB, BEq.rfl, V1, V2, V3, V4, V5, V6, V7, V8, V9, V10, VE, Nat.reduceBEq, Nat.reduceAdd, Nat.reduceSub, Nat.reduceMul, Nat.reduceLeDiff, Nat.reduceLT, Nat.reduceEqDiff, Int.reduceBEq, Int.reduceBNe, Int.reduceLT, Int.reduceLE, Int.reduceAdd, Int.reduceSub, Int.reduceMul]
    refine CallX.mk (allowed_ok l labels m (by omega) hm) rfl ?_
    simp only [bv, FitC_self, hbe, VL, VB, BEq.rfl, V1, V2, V3, V4, V5, V6, V7, V8, V9, V10, VE, Nat.reduceBEq, Nat.reduceAdd, Nat.reduceSub, Nat.reduceMul, Nat.reduceLeDiff, Nat.reduceLT, Nat.reduceEqDiff, Int.reduceBEq, Int.reduceBNe, Int.reduceLT, Int.reduceLE, Int.reduceAdd, Int.reduceSub, Int.reduceMul]
    refine guardB.mk (fun h => ?_) (fun h => ?_)
    · have ha : allowedR l labels = false := by simpa using h
      refine Enter.mk [] [] [] ?_
      simp only [bestR, ha, Bool.false_eq_true, if_false, FitC_self, hbe, VL, VB, BEq.rfl, V1, V2, V3, V4, V5, V6, V7, V8, V9, V10, VE, Nat.reduceBEq, Nat.reduceAdd, Nat.reduceSub, Nat.reduceMul, Nat.reduceLeDiff, Nat.reduceLT, Nat.reduceEqDiff, Int.reduceBEq, Int.reduceBNe, Int.reduceLT, Int.reduceLE, Int.reduceAdd, Int.reduceSub, Int.reduceMul]
    · have ha : allowedR l labels = true := by simpa using h
      simp only [bestR, ha, if_true]
      cases found with
      | none =>
        simp only [fnd, better, if_true, FitC_self, hbe, VL, VB, BEq.rfl, V1, V2, V3, V4, V5, V6, V7, V8, V9, V10, VE, Nat.reduceBEq, Nat.reduceAdd, Nat.reduceSub, Nat.reduceMul, Nat.reduceLeDiff, Nat.reduceLT, Nat.reduceEqDiff, Int.reduceBEq, Int.reduceBNe, Int.reduceLT, Int.reduceLE, Int.reduceAdd, Int.reduceSub, Int.reduceMul]
        refine ⟨⟨by omega, allLen_num labels⟩, Enter.mk [] [27] [] ?_⟩
        simp only [FitC_self, hbe, VL, VB, BEq.rfl, V1, V2, V3, V4, V5, V6, V7, V8, V9, V10, VE, Nat.reduceBEq, Nat.reduceAdd, Nat.reduceSub, Nat.reduceMul, Nat.reduceLeDiff, Nat.reduceLT, Nat.reduceEqDiff, Int.reduceBEq, Int.reduceBNe, Int.reduceLT, Int.reduceLE, Int.reduceAdd, Int.reduceSub, Int.reduceMul]
      | some f =>
        have hle : l ≠ [] := fun h => by have := hf2 h; cases this
        have hfe : f ≠ [] := fun h => hf1 hle (by rw [h])
        simp only [fnd, better, lt_nat, FitC_self, hbe, VL, VB, BEq.rfl, V1, V2, V3, V4, V5, V6, V7, V8, V9, V10, VE, Nat.reduceBEq, Nat.reduceAdd, Nat.reduceSub, Nat.reduceMul, Nat.reduceLeDiff, Nat.reduceLT, Nat.reduceEqDiff, Int.reduceBEq, Int.reduceBNe, Int.reduceLT, Int.reduceLE, Int.reduceAdd, Int.reduceSub, Int.reduceMul]
        refine ⟨by simpa using hfe, ?_⟩
        refine CallX.mk (classes_ok labels) rfl ?_
        simp only [nv, FitC_self, hbe, VL, VB, BEq.rfl, V1, V2, V3, V4, V5, V6, V7, V8, V9, V10, VE, Nat.reduceBEq, Nat.reduceAdd, Nat.reduceSub, Nat.reduceMul, Nat.reduceLeDiff, Nat.reduceLT, Nat.reduceEqDiff, Int.reduceBEq, Int.reduceBNe, Int.reduceLT, Int.reduceLE, Int.reduceAdd, Int.reduceSub, Int.reduceMul]
        refine CallX.mk (classes_ok f) rfl ?_
        simp only [nv, lt_nat, FitC_self, hbe, VL, VB, BEq.rfl, V1, V2, V3, V4, V5, V6, V7, V8, V9, V10, VE, Nat.reduceBEq, Nat.reduceAdd, Nat.reduceSub, Nat.reduceMul, Nat.reduceLeDiff, Nat.reduceLT, Nat.reduceEqDiff, Int.reduceBEq, Int.reduceBNe, Int.reduceLT, Int.reduceLE, Int.reduceAdd, Int.reduceSub, Int.reduceMul]
        refine guardB.mk (fun h2 => ?_) (fun h2 => ?_)
        · simp only [h2, if_true, FitC_self, hbe, VL, VB, BEq.rfl, V1, V2, V3, V4, V5, V6, V7, V8, V9, V10, VE, Nat.reduceBEq, Nat.reduceAdd, Nat.reduceSub, Nat.reduceMul, Nat.reduceLeDiff, Nat.reduceLT, Nat.reduceEqDiff, Int.reduceBEq, Int.reduceBNe, Int.reduceLT, Int.reduceLE, Int.reduceAdd, Int.reduceSub, Int.reduceMul]
          refine ⟨⟨by omega, allLen_num labels⟩, Enter.mk [] [27] [] ?_⟩
          simp only [FitC_self, hbe, VL, VB, BEq.rfl, V1, V2, V3, V4, V5, V6, V7, V8, V9, V10, VE, Nat.reduceBEq, Nat.reduceAdd, Nat.reduceSub, Nat.reduceMul, Nat.reduceLeDiff, Nat.reduceLT, Nat.reduceEqDiff, Int.reduceBEq, Int.reduceBNe, Int.reduceLT, Int.reduceLE, Int.reduceAdd, Int.reduceSub, Int.reduceMul]
        · simp only [h2, Bool.false_eq_true, if_false, FitC_self, hbe, VL, VB, BEq.rfl, V1, V2, V3, V4, V5, V6, V7, V8, V9, V10, VE, Nat.reduceBEq, Nat.reduceAdd, Nat.reduceSub, Nat.reduceMul, Nat.reduceLeDiff, Nat.reduceLT, Nat.reduceEqDiff, Int.reduceBEq, Int.reduceBNe, Int.reduceLT, Int.reduceLE, Int.reduceAdd, Int.reduceSub, Int.reduceMul]
          refine Enter.mk [] [] [] ?_
          simp only [FitC_self, hbe, VL, VB, BEq.rfl, V1, V2, V3, V4, V5, V6, V7, V8, V9, V10, VE, Nat.reduceBEq, Nat.reduceAdd, Nat.reduceSub, Nat.reduceMul, Nat.reduceLeDiff, Nat.reduceLT, Nat.reduceEqDiff, Int.reduceBEq, Int.reduceBNe, Int.reduceLT, Int.reduceLE, Int.reduceAdd, Int.reduceSub, Int.reduceMul]
  | succ r ih =>
    intro labels found hr hf1 hf2
    refine okM_of_vc (L := []) (ts := [6]) envOK mixed Try.func47 rfl (by kernel_rfl) rfl (by decide) (by kernel_rfl) rfl fun hl hlb => ?_
    have hle : l ≠ [] := fun h => by rw [h] at hr; simp at hr
    have hbe : ((labels.length : Int) == (l.length : Int)) = false := by
      rw [int_beq]; exact decide_eq_false (by omega)
    simp only [Try.f47, FitC_self, hbe, lt_nat, le_nat, VL, VB, BEq.rfl, V1, V2, V3, V4, V5, V6, V7, V8, V9, V10, VE, Nat.reduceBEq, Nat.reduceAdd, Nat.reduceSub, Nat.reduceMul, Nat.reduceLeDiff, Nat.reduceLT, Nat.reduceEqDiff, Int.reduceBEq, Int.reduceBNe, Int.reduceLT, Int.reduceLE, Int.reduceAdd, Int.reduceSub, Int.reduceMul]
    refine CallX.mk (allowed_ok l labels m (by omega) hm) rfl ?_
    simp only [bv, FitC_self, hbe, lt_nat, le_nat, VL, VB, BEq.rfl, V1, V2, V3, V4, V5, V6, V7, V8, V9, V10, VE, Nat.reduceBEq, Nat.reduceAdd, Nat.reduceSub, Nat.reduceMul, Nat.reduceLeDiff, Nat.reduceLT, Nat.reduceEqDiff, Int.reduceBEq, Int.reduceBNe, Int.reduceLT, Int.reduceLE, Int.reduceAdd, Int.reduceSub, Int.reduceMul]
    refine guardB.mk (fun h => ?_) (fun h => ?_)
    · have ha : allowedR l labels = false := by simpa using h
      refine Enter.mk [] [] [] ?_
      simp only [bestR, ha, Bool.false_eq_true, if_false, FitC_self, hbe, lt_nat, le_nat, VL, VB, BEq.rfl, V1, V2, V3, V4, V5, V6, V7, V8, V9, V10, VE, Nat.reduceBEq, Nat.reduceAdd, Nat.reduceSub, Nat.reduceMul, Nat.reduceLeDiff, Nat.reduceLT, Nat.reduceEqDiff, Int.reduceBEq, Int.reduceBNe, Int.reduceLT, Int.reduceLE, Int.reduceAdd, Int.reduceSub, Int.reduceMul]
    · have ha : allowedR l labels = true := by simpa using h
      simp only [bestR_succ, ha, if_true, FitC_self, hbe, lt_nat, le_nat, VL, VB, BEq.rfl, V1, V2, V3, V4, V5, V6, V7, V8, V9, V10, VE, Nat.reduceBEq, Nat.reduceAdd, Nat.reduceSub, Nat.reduceMul, Nat.reduceLeDiff, Nat.reduceLT, Nat.reduceEqDiff, Int.reduceBEq, Int.reduceBNe, Int.reduceLT, Int.reduceLE, Int.reduceAdd, Int.reduceSub, Int.reduceMul]
      refine LoopVC.mk (Y := Nat) (fun k => k ≤ labels.length + 1) (fun k => ⟨[(0, .c (corrs l)), (1, .c (nums labels)), (2, .c (fnd (bestFold l r labels found k))), (7, .c (.sc (.int .i64 k)))], []⟩) (fun k => labels.length + 1 - k) ⟨0, Enter.id ?_, by omega⟩ ?_
      · simp only [bestFold, List.range_zero, List.foldl_nil, FitC_self, hbe, lt_nat, le_nat, VL, VB, BEq.rfl, V1, V2, V3, V4, V5, V6, V7, V8, V9, V10, VE, Nat.reduceBEq, Nat.reduceAdd, Nat.reduceSub, Nat.reduceMul, Nat.reduceLeDiff, Nat.reduceLT, Nat.reduceEqDiff, Int.reduceBEq, Int.reduceBNe, Int.reduceLT, Int.reduceLE, Int.reduceAdd, Int.reduceSub, Int.reduceMul]
        rfl
      intro k hk
      have hne : bestFold l r labels found k ≠ some [] := by
        have h0 : bestFold l r labels found 0 ≠ some [] := hf1 hle
        clear hk
        induction k with
        | zero => exact h0
        | succ k ihk =>
          rw [bestFold_succ]
          split
          · exact bestR_ne l r _ _ (by rw [List.length_append]; simp only [List.length_cons, List.length_nil]; omega) hle ihk
          · exact ihk
      have hs := bestFold_succ l r labels found k
      have hrec := ih (labels ++ [(k : Int)]) (bestFold l r labels found k) (by rw [List.length_append]; simp only [List.length_cons, List.length_nil]; omega) (fun _ => hne) (fun h => (hle h).elim)
      have hw := wrap_nat (k := k) (by omega)
      simp only [FitC_self, hbe, lt_nat, le_nat, VL, VB, BEq.rfl, V1, V2, V3, V4, V5, V6, V7, V8, V9, V10, VE, Nat.reduceBEq, Nat.reduceAdd, Nat.reduceSub, Nat.reduceMul, Nat.reduceLeDiff, Nat.reduceLT, Nat.reduceEqDiff, Int.reduceBEq, Int.reduceBNe, Int.reduceLT, Int.reduceLE, Int.reduceAdd, Int.reduceSub, Int.reduceMul]
      refine guardB.mk (fun h => ?_) (fun h => ?_) <;> simp only [h, FitC_self, hbe, lt_nat, le_nat, VL, VB, BEq.rfl, V1, V2, V3, V4, V5, V6, V7, V8, V9, V10, VE, Nat.reduceBEq, Nat.reduceAdd, Nat.reduceSub, Nat.reduceMul, Nat.reduceLeDiff, Nat.reduceLT, Nat.reduceEqDiff, Int.reduceBEq, Int.reduceBNe, Int.reduceLT, Int.reduceLE, Int.reduceAdd, Int.reduceSub, Int.reduceMul]
      · have hk' : k < labels.length + 1 := by have : k ≤ labels.length := by simpa using h
                                               omega
        refine guardB.mk (fun h2 => ?_) (fun h2 => ?_) <;> simp only [h2, getD_num, num_def, hw, FitC_self, hbe, lt_nat, le_nat, VL, VB, BEq.rfl, V1, V2, V3, V4, V5, V6, V7, V8, V9, V10, VE, Nat.reduceBEq, Nat.reduceAdd, Nat.reduceSub, Nat.reduceMul, Nat.reduceLeDiff, Nat.reduceLT, Nat.reduceEqDiff, Int.reduceBEq, Int.reduceBNe, Int.reduceLT, Int.reduceLE, Int.reduceAdd, Int.reduceSub, Int.reduceMul]
        · have hkl : k = labels.length := by simp at h2; omega
          rw [if_pos (.inl hkl)] at hs
          (refine ⟨⟨by omega, allLen_num labels⟩, ⟨by omega, allLen_one rfl⟩, callN_mut (CallMVC.mk [50] [] hrec ?_ ?_)⟩)
          · simp only [getD_num, num_def, hw, FitC_self, hbe, lt_nat, le_nat, VL, VB, BEq.rfl, V1, V2, V3, V4, V5, V6, V7, V8, V9, V10, VE, Nat.reduceBEq, Nat.reduceAdd, Nat.reduceSub, Nat.reduceMul, Nat.reduceLeDiff, Nat.reduceLT, Nat.reduceEqDiff, Int.reduceBEq, Int.reduceBNe, Int.reduceLT, Int.reduceLE, Int.reduceAdd, Int.reduceSub, Int.reduceMul]
            rw [nums, List.map_append]; rfl
          · simp only [getD_num, num_def, hw, FitC_self, hbe, lt_nat, le_nat, VL, VB, BEq.rfl, V1, V2, V3, V4, V5, V6, V7, V8, V9, V10, VE, Nat.reduceBEq, Nat.reduceAdd, Nat.reduceSub, Nat.reduceMul, Nat.reduceLeDiff, Nat.reduceLT, Nat.reduceEqDiff, Int.reduceBEq, Int.reduceBNe, Int.reduceLT, Int.reduceLE, Int.reduceAdd, Int.reduceSub, Int.reduceMul]
            refine ⟨k + 1, Enter.id ?_, by omega, by show labels.length + 1 - (k + 1) < labels.length + 1 - k; omega⟩
            simp only [hs, getD_num, num_def, hw, FitC_self, hbe, lt_nat, le_nat, VL, VB, BEq.rfl, V1, V2, V3, V4, V5, V6, V7, V8, V9, V10, VE, Nat.reduceBEq, Nat.reduceAdd, Nat.reduceSub, Nat.reduceMul, Nat.reduceLeDiff, Nat.reduceLT, Nat.reduceEqDiff, Int.reduceBEq, Int.reduceBNe, Int.reduceLT, Int.reduceLE, Int.reduceAdd, Int.reduceSub, Int.reduceMul]
        · have hkl : ¬ k = labels.length := by simp at h2; omega
          have hk2 : k < labels.length := by omega
          simp only [hk2, getD_num, num_def, hw, FitC_self, hbe, lt_nat, le_nat, VL, VB, BEq.rfl, V1, V2, V3, V4, V5, V6, V7, V8, V9, V10, VE, Nat.reduceBEq, Nat.reduceAdd, Nat.reduceSub, Nat.reduceMul, Nat.reduceLeDiff, Nat.reduceLT, Nat.reduceEqDiff, Int.reduceBEq, Int.reduceBNe, Int.reduceLT, Int.reduceLE, Int.reduceAdd, Int.reduceSub, Int.reduceMul]
          refine ⟨Int.natCast_nonneg k, guardB.mk (fun h3 => ?_) (fun h3 => ?_)⟩ <;> simp only [h3, getD_num, num_def, hw, FitC_self, hbe, lt_nat, le_nat, VL, VB, BEq.rfl, V1, V2, V3, V4, V5, V6, V7, V8, V9, V10, VE, Nat.reduceBEq, Nat.reduceAdd, Nat.reduceSub, Nat.reduceMul, Nat.reduceLeDiff, Nat.reduceLT, Nat.reduceEqDiff, Int.reduceBEq, Int.reduceBNe, Int.reduceLT, Int.reduceLE, Int.reduceAdd, Int.reduceSub, Int.reduceMul]
          · have hkd : labels.getD k 0 = (k : Int) := by simpa using h3
            rw [if_pos (.inr hkd)] at hs
            (refine ⟨⟨by omega, allLen_num labels⟩, ⟨by omega, allLen_one rfl⟩, callN_mut (CallMVC.mk [50] [] hrec ?_ ?_)⟩)
            · simp only [getD_num, num_def, hw, FitC_self, hbe, lt_nat, le_nat, VL, VB, BEq.rfl, V1, V2, V3, V4, V5, V6, V7, V8, V9, V10, VE, Nat.reduceBEq, Nat.reduceAdd, Nat.reduceSub, Nat.reduceMul, Nat.reduceLeDiff, Nat.reduceLT, Nat.reduceEqDiff, Int.reduceBEq, Int.reduceBNe, Int.reduceLT, Int.reduceLE, Int.reduceAdd, Int.reduceSub, Int.reduceMul]
              rw [nums, List.map_append]; rfl
            · simp only [getD_num, num_def, hw, FitC_self, hbe, lt_nat, le_nat, VL, VB, BEq.rfl, V1, V2, V3, V4, V5, V6, V7, V8, V9, V10, VE, Nat.reduceBEq, Nat.reduceAdd, Nat.reduceSub, Nat.reduceMul, Nat.reduceLeDiff, Nat.reduceLT, Nat.reduceEqDiff, Int.reduceBEq, Int.reduceBNe, Int.reduceLT, Int.reduceLE, Int.reduceAdd, Int.reduceSub, Int.reduceMul]
              refine ⟨k + 1, Enter.id ?_, by omega, by show labels.length + 1 - (k + 1) < labels.length + 1 - k; omega⟩
              simp only [hs, getD_num, num_def, hw, FitC_self, hbe, lt_nat, le_nat, VL, VB, BEq.rfl, V1, V2, V3, V4, V5, V6, V7, V8, V9, V10, VE, Nat.reduceBEq, Nat.reduceAdd, Nat.reduceSub, Nat.reduceMul, Nat.reduceLeDiff, Nat.reduceLT, Nat.reduceEqDiff, Int.reduceBEq, Int.reduceBNe, Int.reduceLT, Int.reduceLE, Int.reduceAdd, Int.reduceSub, Int.reduceMul]
          · have hkd : ¬ labels.getD k 0 = (k : Int) := by simpa using h3
            rw [if_neg (fun h => h.elim hkl hkd)] at hs
            refine ⟨k + 1, Enter.id ?_, by omega, by show labels.length + 1 - (k + 1) < labels.length + 1 - k; omega⟩
            simp only [hs, getD_num, num_def, hw, FitC_self, hbe, lt_nat, le_nat, VL, VB, BEq.rfl, V1, V2, V3, V4, V5, V6, V7, V8, V9, V10, VE, Nat.reduceBEq, Nat.reduceAdd, Nat.reduceSub, Nat.reduceMul, Nat.reduceLeDiff, Nat.reduceLT, Nat.reduceEqDiff, Int.reduceBEq, Int.reduceBNe, Int.reduceLT, Int.reduceLE, Int.reduceAdd, Int.reduceSub, Int.reduceMul]
      · have hk' : k = labels.length + 1 := by have : ¬ k ≤ labels.length := by simpa using h
                                               omega
        subst hk'
        refine Enter.mk [] [] [] ?_
        simp only [FitC_self, hbe, lt_nat, le_nat, VL, VB, BEq.rfl, V1, V2, V3, V4, V5, V6, V7, V8, V9, V10, VE, Nat.reduceBEq, Nat.reduceAdd, Nat.reduceSub, Nat.reduceMul, Nat.reduceLeDiff, Nat.reduceLT, Nat.reduceEqDiff, Int.reduceBEq, Int.reduceBNe, Int.reduceLT, Int.reduceLE, Int.reduceAdd, Int.reduceSub, Int.reduceMul]

def lblR (l : List Corr) : List Int := (bestR l l.length [] none).getD []
theorem fnd_toD (bx : List (Nat × Box)) (f : Option (List Int)) : toD bx (.c (fnd f)) = some (nums (f.getD []), []) := by
  cases f with
  | none => rfl
  | some xs => rfl

theorem rfewest_ok (l : List Corr) : Ok Try.prog E 25 [.c (corrs l)] (.tp [.c (nums (if checkR l 8 = 0 then lblR l else [])), nv (if checkR l 8 = 0 then (manyC (lblR l) (lblR l).length : Nat) else 0), nv (checkR l 8)]) := by
  refine ok_of_vc (L := []) (ts := [2, 3, 4]) envOK mixed Try.func25 rfl (by kernel_rfl) rfl (by kernel_rfl) rfl fun hl => ?_
  simp only [Try.f25, nv, VL, VB, BEq.rfl, V1, V2, V3, V4, V5, V6, V7, V8, V9, V10, VE, Nat.reduceBEq, Nat.reduceAdd, Nat.reduceSub, Nat.reduceMul, Nat.reduceLeDiff, Nat.reduceLT, Nat.reduceEqDiff, Int.reduceBEq, Int.reduceBNe, Int.reduceLT, Int.reduceLE, Int.reduceAdd, Int.reduceSub, Int.reduceMul]
  refine CallX.mk (rcheck_ok l 8) rfl ?_
  simp only [nv, VL, VB, BEq.rfl, V1, V2, V3, V4, V5, V6, V7, V8, V9, V10, VE, Nat.reduceBEq, Nat.reduceAdd, Nat.reduceSub, Nat.reduceMul, Nat.reduceLeDiff, Nat.reduceLT, Nat.reduceEqDiff, Int.reduceBEq, Int.reduceBNe, Int.reduceLT, Int.reduceLE, Int.reduceAdd, Int.reduceSub, Int.reduceMul]
  refine guardB.mk (fun h => ?_) (fun h => ?_)
  · have h0 : ¬ checkR l 8 = 0 := by simpa using h
    simp only [h0, if_false, VL, VB, BEq.rfl, V1, V2, V3, V4, V5, V6, V7, V8, V9, V10, VE, Nat.reduceBEq, Nat.reduceAdd, Nat.reduceSub, Nat.reduceMul, Nat.reduceLeDiff, Nat.reduceLT, Nat.reduceEqDiff, Int.reduceBEq, Int.reduceBNe, Int.reduceLT, Int.reduceLE, Int.reduceAdd, Int.reduceSub, Int.reduceMul]
    rfl
  · have h0 : checkR l 8 = 0 := by simpa using h
    have hn : l.length ≤ 8 := by
      unfold checkR at h0
      split at h0
      · cases h0
      · omega
    have hlist : listR l = true := by
      unfold checkR at h0
      split at h0
      · cases h0
      · split at h0
        · assumption
        · cases h0
    have hm : ∀ c ∈ l, c.cells.length = headLen l := fun c hc => by
      have := List.all_eq_true.1 hlist c hc
      simp only [corrD, Bool.and_eq_true, decide_eq_true_eq] at this
      exact this.2.2.2
    simp only [h0, if_true, VL, VB, BEq.rfl, V1, V2, V3, V4, V5, V6, V7, V8, V9, V10, VE, Nat.reduceBEq, Nat.reduceAdd, Nat.reduceSub, Nat.reduceMul, Nat.reduceLeDiff, Nat.reduceLT, Nat.reduceEqDiff, Int.reduceBEq, Int.reduceBNe, Int.reduceLT, Int.reduceLE, Int.reduceAdd, Int.reduceSub, Int.reduceMul]
    refine CallX.mut (CallMVC.mk [] [] (best_ok l (headLen l) hm hn l.length [] none (by simp) (fun _ h => (by cases h)) fun _ => rfl) ?_ ?_)
    · simp only [fnd, List.map_nil, or_true, true_or, VL, VB, BEq.rfl, V1, V2, V3, V4, V5, V6, V7, V8, V9, V10, VE, Nat.reduceBEq, Nat.reduceAdd, Nat.reduceSub, Nat.reduceMul, Nat.reduceLeDiff, Nat.reduceLT, Nat.reduceEqDiff, Int.reduceBEq, Int.reduceBNe, Int.reduceLT, Int.reduceLE, Int.reduceAdd, Int.reduceSub, Int.reduceMul]
      exact .inr rfl
    · simp only [lblR, VL, VB, BEq.rfl, V1, V2, V3, V4, V5, V6, V7, V8, V9, V10, VE, Nat.reduceBEq, Nat.reduceAdd, Nat.reduceSub, Nat.reduceMul, Nat.reduceLeDiff, Nat.reduceLT, Nat.reduceEqDiff, Int.reduceBEq, Int.reduceBNe, Int.reduceLT, Int.reduceLE, Int.reduceAdd, Int.reduceSub, Int.reduceMul]
      cases hX : bestR l l.length [] none with
      | none =>
        simp only [fnd, Option.getD_none, VL, VB, BEq.rfl, V1, V2, V3, V4, V5, V6, V7, V8, V9, V10, VE, Nat.reduceBEq, Nat.reduceAdd, Nat.reduceSub, Nat.reduceMul, Nat.reduceLeDiff, Nat.reduceLT, Nat.reduceEqDiff, Int.reduceBEq, Int.reduceBNe, Int.reduceLT, Int.reduceLE, Int.reduceAdd, Int.reduceSub, Int.reduceMul]
        refine CallX.mk (classes_ok []) rfl ?_
        simp only [nv, VL, VB, BEq.rfl, V1, V2, V3, V4, V5, V6, V7, V8, V9, V10, VE, Nat.reduceBEq, Nat.reduceAdd, Nat.reduceSub, Nat.reduceMul, Nat.reduceLeDiff, Nat.reduceLT, Nat.reduceEqDiff, Int.reduceBEq, Int.reduceBNe, Int.reduceLT, Int.reduceLE, Int.reduceAdd, Int.reduceSub, Int.reduceMul]
        rfl
      | some xs =>
        simp only [fnd, VL, VB, BEq.rfl, V1, V2, V3, V4, V5, V6, V7, V8, V9, V10, VE, Nat.reduceBEq, Nat.reduceAdd, Nat.reduceSub, Nat.reduceMul, Nat.reduceLeDiff, Nat.reduceLT, Nat.reduceEqDiff, Int.reduceBEq, Int.reduceBNe, Int.reduceLT, Int.reduceLE, Int.reduceAdd, Int.reduceSub, Int.reduceMul]
        refine CallX.mk (classes_ok xs) rfl ?_
        simp only [nv, VL, VB, BEq.rfl, V1, V2, V3, V4, V5, V6, V7, V8, V9, V10, VE, Nat.reduceBEq, Nat.reduceAdd, Nat.reduceSub, Nat.reduceMul, Nat.reduceLeDiff, Nat.reduceLT, Nat.reduceEqDiff, Int.reduceBEq, Int.reduceBNe, Int.reduceLT, Int.reduceLE, Int.reduceAdd, Int.reduceSub, Int.reduceMul]

end Go.Cp
end

section
set_option linter.unusedVariables false
set_option linter.unusedSimpArgs false
set_option maxHeartbeats 8000000
set_option maxRecDepth 10000
namespace Go.Cp
open Go Go.Proofs Go.Vx

structure PSt where
  lb : List Int
  js : List (List Cell)
  fd : List Int
  be : Nat
def putIn (l : List Corr) (i k : Nat) (st : PSt) : PSt := ⟨st.lb.set i (k : Int), st.js.set k (joinC (st.js.getD k []) (cellsAt l i)), st.fd, st.be⟩
def putOut (k : Nat) (old : List Cell) (st : PSt) : PSt := ⟨st.lb, st.js.set k old, st.fd, st.be⟩
def putTo (l : List Corr) (rec : PSt → PSt) (i : Nat) (st : PSt) (k : Nat) : PSt :=
  if holds st.lb st.js (cellsAt l i) k then putOut k (st.js.getD k []) (rec (putIn l i k st)) else st
def putNew (l : List Corr) (i : Nat) (st : PSt) : PSt := ⟨st.lb.set i (i : Int), st.js.set i (cellsAt l i), st.fd, st.be⟩
def putC (l : List Corr) : Nat → Nat → Nat → PSt → PSt
  | 0, i, many, st => if st.be ≤ many then st else ⟨st.lb, st.js, st.lb, many⟩
  | r + 1, i, many, st => if st.be ≤ many then st else putC l r (i + 1) (many + 1) (putNew l i ((List.range i).foldl (putTo l (putC l r (i + 1) many) i) st))
def putAt (l : List Corr) (r i many : Nat) (st : PSt) (k : Nat) : PSt := (List.range k).foldl (putTo l (putC l r (i + 1) many) i) st
theorem putAt_succ (l : List Corr) (r i many : Nat) (st : PSt) (k : Nat) : putAt l r i many st (k + 1) = putTo l (putC l r (i + 1) many) i (putAt l r i many st k) k := by
  simp only [putAt, List.range_succ, List.foldl_append, List.foldl_cons, List.foldl_nil]
theorem putC_succ (l : List Corr) (r i many : Nat) (st : PSt) : putC l (r + 1) i many st = if st.be ≤ many then st else putC l r (i + 1) (many + 1) (putNew l i (putAt l r i many st i)) := rfl

structure Good (l : List Corr) (m : Nat) (st : PSt) : Prop where
  lb : st.lb.length = l.length
  js : st.js.length = l.length
  le : ∀ j, (st.js.getD j []).length ≤ m
  be : st.be ≤ l.length + 1
section
variable {l : List Corr} {m : Nat} (hm : ∀ c ∈ l, c.cells.length = m)
include hm
theorem cellsAt_len {i : Nat} (h : i < l.length) : (cellsAt l i).length = m := hm _ (getD_mem h)
omit hm in
theorem Good.set {st : PSt} (h : Good l m st) (k : Nat) (x : List Cell) (hx : x.length ≤ m) (lb : List Int) (hl : lb.length = l.length) : Good l m ⟨lb, st.js.set k x, st.fd, st.be⟩ := by
  refine ⟨hl, by rw [List.length_set]; exact h.js, fun j => ?_, h.be⟩
  simp only [getD_set]
  split
  · exact hx
  · exact h.le j
omit hm in
theorem Good.putIn {st : PSt} (h : Good l m st) (i k : Nat) : Good l m (putIn l i k st) :=
  h.set k _ (Nat.le_trans (joinC_len_le _ _) (h.le k)) _ (by rw [List.length_set]; exact h.lb)
omit hm in
theorem Good.putOut {st : PSt} (h : Good l m st) (k : Nat) (old : List Cell) (ho : old.length ≤ m) : Good l m (putOut k old st) := h.set k _ ho _ h.lb
theorem Good.putNew {st : PSt} (h : Good l m st) (i : Nat) (hi : i < l.length) : Good l m (putNew l i st) :=
  h.set i _ (by rw [cellsAt_len hm hi]; exact Nat.le_refl _) _ (by rw [List.length_set]; exact h.lb)
omit hm in
theorem putAt_good {r i many : Nat} (ih : ∀ st, Good l m st → Good l m (putC l r (i + 1) many st)) {st : PSt} (h : Good l m st) : ∀ k, Good l m (putAt l r i many st k)
  | 0 => h
  | k + 1 => by
    have hk := putAt_good ih h k
    rw [putAt_succ, putTo]
    split
    · exact (ih _ (hk.putIn i k)).putOut k _ (hk.le k)
    · exact hk
theorem putC_good : ∀ (r i many : Nat) (st : PSt), i + r = l.length → many ≤ i → Good l m st → Good l m (putC l r i many st)
  | 0, i, many, st, hr, hmi, h => by
    rw [putC]
    split
    · exact h
    · exact ⟨h.lb, h.js, h.le, by show many ≤ _; omega⟩
  | r + 1, i, many, st, hr, hmi, h => by
    rw [putC_succ]
    split
    · exact h
    · exact putC_good r (i + 1) (many + 1) _ (by omega) (by omega) ((putAt_good (fun st h => putC_good r (i + 1) many st (by omega) (by omega) h) h i).putNew hm i (by omega))
end

def putFn : AV := .fn 46 [.bp 2001 0, .bp 2002 0, .bp 2003 0, .bp 2004 0, .bp 2005 0, .bp 2006 0]
def putBx (l : List Corr) (st : PSt) : List (Nat × Box) :=
  [(2001, .cells [.c (.sc (.int .i64 st.be))]), (2002, .cells [.c (corrs l)]), (2003, .cells [.osl 2013 0]), (2004, .cells [.c (nums st.fd)]), (2005, .cells [.osl 2015 0]), (2006, .cells [.fn 46 [.bp 2001 0, .bp 2002 0, .bp 2003 0, .bp 2004 0, .bp 2005 0, .bp 2006 0]]),
   (2013, .arr 3 0 (st.lb.map num)), (2015, .arr 22 0 (st.js.map rowD))]

theorem put_ok (l : List Corr) (m : Nat) (hm : ∀ c ∈ l, c.cells.length = m) (hb : m * 16 ≤ 140737488355328) (hn : l.length ≤ 8) : ∀ (r i many : Nat) (st : PSt), i + r = l.length → many ≤ i → Good l m st →
    OkM Try.prog E 46 [nv i, nv many, .bp 2001 0, .bp 2002 0, .bp 2003 0, .bp 2004 0, .bp 2005 0, .bp 2006 0] (putBx l st) (.tp []) (putBx l (putC l r i many st)) := by
  intro r
  induction r with
  | zero =>
    intro i many st hr hmi hg
    refine okM_of_vc (L := [(8, [(0, 11), (2, 11), (2, 13)]), (12, [(2, 11)])]) (ts := []) envOK mixed Try.func46 rfl (by kernel_rfl) rfl (by decide) (by kernel_rfl) rfl fun hl hlb => ?_
    have hie : i = l.length := by omega
    subst hie
    have hlb := hg.lb
    simp only [Try.f46, nv, putBx, le_nat, VL, VB, BEq.rfl, V1, V2, V3, V4, V5, V6, V7, V8, V9, V10, VE, Nat.reduceBEq, Nat.reduceAdd, Nat.reduceSub, Nat.reduceMul, Nat.reduceLeDiff, Nat.reduceLT, Nat.reduceEqDiff, Int.reduceBEq, Int.reduceBNe, Int.reduceLT, Int.reduceLE, Int.reduceAdd, Int.reduceSub, Int.reduceMul]
    refine guardB.mk (fun h => ?_) (fun h => ?_)
    · have hbm : st.be ≤ many := by simpa using h
      rw [putC, if_pos hbm]
      simp only [VL, VB, BEq.rfl, V1, V2, V3, V4, V5, V6, V7, V8, V9, V10, VE, Nat.reduceBEq, Nat.reduceAdd, Nat.reduceSub, Nat.reduceMul, Nat.reduceLeDiff, Nat.reduceLT, Nat.reduceEqDiff, Int.reduceBEq, Int.reduceBNe, Int.reduceLT, Int.reduceLE, Int.reduceAdd, Int.reduceSub, Int.reduceMul]
      refine Enter.mk [] [] [] ?_
      simp only [VL, VB, BEq.rfl, V1, V2, V3, V4, V5, V6, V7, V8, V9, V10, VE, Nat.reduceBEq, Nat.reduceAdd, Nat.reduceSub, Nat.reduceMul, Nat.reduceLeDiff, Nat.reduceLT, Nat.reduceEqDiff, Int.reduceBEq, Int.reduceBNe, Int.reduceLT, Int.reduceLE, Int.reduceAdd, Int.reduceSub, Int.reduceMul]
    · have hbm : ¬ st.be ≤ many := by simpa using h
      rw [putC, if_neg hbm]
      simp only [VL, VB, BEq.rfl, V1, V2, V3, V4, V5, V6, V7, V8, V9, V10, VE, Nat.reduceBEq, Nat.reduceAdd, Nat.reduceSub, Nat.reduceMul, Nat.reduceLeDiff, Nat.reduceLT, Nat.reduceEqDiff, Int.reduceBEq, Int.reduceBNe, Int.reduceLT, Int.reduceLE, Int.reduceAdd, Int.reduceSub, Int.reduceMul]
      refine ⟨⟨by omega, allLen_num _⟩, Enter.mk [] [19] [] ?_⟩
      simp only [VL, VB, BEq.rfl, V1, V2, V3, V4, V5, V6, V7, V8, V9, V10, VE, Nat.reduceBEq, Nat.reduceAdd, Nat.reduceSub, Nat.reduceMul, Nat.reduceLeDiff, Nat.reduceLT, Nat.reduceEqDiff, Int.reduceBEq, Int.reduceBNe, Int.reduceLT, Int.reduceLE, Int.reduceAdd, Int.reduceSub, Int.reduceMul]
  | succ r ih =>
    intro i many st hr hmi hg
    refine okM_of_vc (L := [(8, [(0, 11), (2, 11), (2, 13)]), (12, [(2, 11)])]) (ts := []) envOK mixed Try.func46 rfl (by kernel_rfl) rfl (by decide) (by kernel_rfl) rfl fun hl hlb => ?_
    have hin : ((i : Int) == (l.length : Int)) = false := by rw [int_beq]; exact decide_eq_false (by omega)
    simp only [Try.f46, nv, putBx, le_nat, hin, VL, VB, BEq.rfl, V1, V2, V3, V4, V5, V6, V7, V8, V9, V10, VE, Nat.reduceBEq, Nat.reduceAdd, Nat.reduceSub, Nat.reduceMul, Nat.reduceLeDiff, Nat.reduceLT, Nat.reduceEqDiff, Int.reduceBEq, Int.reduceBNe, Int.reduceLT, Int.reduceLE, Int.reduceAdd, Int.reduceSub, Int.reduceMul]
    refine guardB.mk (fun h => ?_) (fun h => ?_)
    · have hbm : st.be ≤ many := by simpa using h
      rw [putC_succ, if_pos hbm]
      simp only [hin, VL, VB, BEq.rfl, V1, V2, V3, V4, V5, V6, V7, V8, V9, V10, VE, Nat.reduceBEq, Nat.reduceAdd, Nat.reduceSub, Nat.reduceMul, Nat.reduceLeDiff, Nat.reduceLT, Nat.reduceEqDiff, Int.reduceBEq, Int.reduceBNe, Int.reduceLT, Int.reduceLE, Int.reduceAdd, Int.reduceSub, Int.reduceMul]
      refine Enter.mk [] [] [] ?_
      simp only [hin, VL, VB, BEq.rfl, V1, V2, V3, V4, V5, V6, V7, V8, V9, V10, VE, Nat.reduceBEq, Nat.reduceAdd, Nat.reduceSub, Nat.reduceMul, Nat.reduceLeDiff, Nat.reduceLT, Nat.reduceEqDiff, Int.reduceBEq, Int.reduceBNe, Int.reduceLT, Int.reduceLE, Int.reduceAdd, Int.reduceSub, Int.reduceMul]
    · have hbm : ¬ st.be ≤ many := by simpa using h
      rw [putC_succ, if_neg hbm]
      have hgr : ∀ st, Good l m st → Good l m (putC l r (i + 1) many st) := fun st h => putC_good hm r (i + 1) many st (by omega) (by omega) h
      simp only [hin, VL, VB, BEq.rfl, V1, V2, V3, V4, V5, V6, V7, V8, V9, V10, VE, Nat.reduceBEq, Nat.reduceAdd, Nat.reduceSub, Nat.reduceMul, Nat.reduceLeDiff, Nat.reduceLT, Nat.reduceEqDiff, Int.reduceBEq, Int.reduceBNe, Int.reduceLT, Int.reduceLE, Int.reduceAdd, Int.reduceSub, Int.reduceMul]
      refine LoopVC.mk (Y := Nat) (fun k => k ≤ i) (fun k => ⟨[(0, .c (.sc (.int .i64 i))), (1, .c (.sc (.int .i64 many))), (2, .bp 2001 0), (3, .bp 2002 0), (4, .bp 2003 0), (5, .bp 2004 0), (6, .bp 2005 0), (7, .bp 2006 0), (23, .c (.sc (.int .i64 i))), (24, .c (.sc (.int .i64 k)))], putBx l (putAt l r i many st k)⟩) (fun k => i - k) ⟨0, Enter.mk [] [] [] ?_, by omega⟩ ?_
      · simp only [putAt, List.range_zero, List.foldl_nil, putBx, hin, VL, VB, BEq.rfl, V1, V2, V3, V4, V5, V6, V7, V8, V9, V10, VE, Nat.reduceBEq, Nat.reduceAdd, Nat.reduceSub, Nat.reduceMul, Nat.reduceLeDiff, Nat.reduceLT, Nat.reduceEqDiff, Int.reduceBEq, Int.reduceBNe, Int.reduceLT, Int.reduceLE, Int.reduceAdd, Int.reduceSub, Int.reduceMul]
        rfl
      intro k hk
      have hgk : Good l m (putAt l r i many st k) := putAt_good hgr hg k
      have hs := putAt_succ l r i many st k
      generalize hsk : putAt l r i many st k = sk at hgk hs ⊢
      obtain ⟨lb, js, fd, be⟩ := sk
      obtain ⟨g1, g2, g3, g4⟩ := hgk
      simp only at g1 g2 g3 g4
      obtain ⟨c, hc⟩ : ∃ c, l.getD i Corr.zero = c := ⟨_, rfl⟩
      have hil : i < l.length := by omega
      have hcl : cellsAt l i = c.cells := by rw [cellsAt, hc]
      have hcm : c.cells.length = m := by rw [← hcl]; exact cellsAt_len hm hil
      have hlbi : i < lb.length := by omega
      have hjsi : i < js.length := by omega
      have hwi := wrap_nat (k := i) (by omega)
      have hwm := wrap_nat (k := many) (by omega)
      simp only [putBx, lt_nat, hin, VL, VB, BEq.rfl, V1, V2, V3, V4, V5, V6, V7, V8, V9, V10, VE, Nat.reduceBEq, Nat.reduceAdd, Nat.reduceSub, Nat.reduceMul, Nat.reduceLeDiff, Nat.reduceLT, Nat.reduceEqDiff, Int.reduceBEq, Int.reduceBNe, Int.reduceLT, Int.reduceLE, Int.reduceAdd, Int.reduceSub, Int.reduceMul]
      refine guardB.mk (fun h => ?_) (fun h => ?_)
      · have hk' : k < i := by simpa using h
        have hlbk : k < lb.length := by omega
        have hjsk : k < js.length := by omega
        have hw := wrap_nat (k := k) (by omega)
        simp only [putTo, hcl] at hs
        simp only [getD_num, getD_row, getD_corr, hlbk, hjsk, hlbi, hil, hc, num_def, row_def, corr_def, num_beq, hw, hwi, hin, VL, VB, BEq.rfl, V1, V2, V3, V4, V5, V6, V7, V8, V9, V10, VE, Nat.reduceBEq, Nat.reduceAdd, Nat.reduceSub, Nat.reduceMul, Nat.reduceLeDiff, Nat.reduceLT, Nat.reduceEqDiff, Int.reduceBEq, Int.reduceBNe, Int.reduceLT, Int.reduceLE, Int.reduceAdd, Int.reduceSub, Int.reduceMul]
        refine ⟨Int.natCast_nonneg k, guardB.mk (fun h3 => ?_) (fun h3 => ?_)⟩ <;> simp only [h3, getD_num, getD_row, getD_corr, hlbk, hjsk, hlbi, hil, hc, num_def, row_def, corr_def, num_beq, hw, hwi, hin, VL, VB, BEq.rfl, V1, V2, V3, V4, V5, V6, V7, V8, V9, V10, VE, Nat.reduceBEq, Nat.reduceAdd, Nat.reduceSub, Nat.reduceMul, Nat.reduceLeDiff, Nat.reduceLT, Nat.reduceEqDiff, Int.reduceBEq, Int.reduceBNe, Int.reduceLT, Int.reduceLE, Int.reduceAdd, Int.reduceSub, Int.reduceMul]
        · have hno : holds lb js c.cells k = false := by
            rw [holds, show decide (lb.getD k 0 = (k : Int)) = false from by simpa using h3]; rfl
          rw [hno] at hs
          refine ⟨k + 1, Enter.mk [] [] [] ?_, by omega, by show i - (k + 1) < i - k; omega⟩
          simp only [hs, Bool.false_eq_true, if_false, getD_num, getD_row, getD_corr, hlbk, hjsk, hlbi, hil, hc, num_def, row_def, corr_def, num_beq, hw, hwi, hin, VL, VB, BEq.rfl, V1, V2, V3, V4, V5, V6, V7, V8, V9, V10, VE, Nat.reduceBEq, Nat.reduceAdd, Nat.reduceSub, Nat.reduceMul, Nat.reduceLeDiff, Nat.reduceLT, Nat.reduceEqDiff, Int.reduceBEq, Int.reduceBNe, Int.reduceLT, Int.reduceLE, Int.reduceAdd, Int.reduceSub, Int.reduceMul]
        · refine ⟨Int.natCast_nonneg k, Int.natCast_nonneg i, ?_⟩
          refine CallX.mk (fit_ok (js.getD k []) c.cells (by rw [hcm]; exact g3 k)) rfl ?_
          simp only [getD_num, getD_row, getD_corr, hlbk, hjsk, hlbi, hil, hc, num_def, row_def, corr_def, num_beq, hw, hwi, hin, VL, VB, BEq.rfl, V1, V2, V3, V4, V5, V6, V7, V8, V9, V10, VE, Nat.reduceBEq, Nat.reduceAdd, Nat.reduceSub, Nat.reduceMul, Nat.reduceLeDiff, Nat.reduceLT, Nat.reduceEqDiff, Int.reduceBEq, Int.reduceBNe, Int.reduceLT, Int.reduceLE, Int.reduceAdd, Int.reduceSub, Int.reduceMul]
          refine guardB.mk (fun h4 => ?_) (fun h4 => ?_)
          · have hf : fitC (js.getD k []) c.cells = false := by simpa using h4
            have hno : holds lb js c.cells k = false := by rw [holds, hf, Bool.and_false]
            rw [hno] at hs
            simp only [hf, getD_num, getD_row, getD_corr, hlbk, hjsk, hlbi, hil, hc, num_def, row_def, corr_def, num_beq, hw, hwi, hin, VL, VB, BEq.rfl, V1, V2, V3, V4, V5, V6, V7, V8, V9, V10, VE, Nat.reduceBEq, Nat.reduceAdd, Nat.reduceSub, Nat.reduceMul, Nat.reduceLeDiff, Nat.reduceLT, Nat.reduceEqDiff, Int.reduceBEq, Int.reduceBNe, Int.reduceLT, Int.reduceLE, Int.reduceAdd, Int.reduceSub, Int.reduceMul]
            refine ⟨k + 1, Enter.mk [] [] [] ?_, by omega, by show i - (k + 1) < i - k; omega⟩
            simp only [hs, Bool.false_eq_true, if_false, getD_num, getD_row, getD_corr, hlbk, hjsk, hlbi, hil, hc, num_def, row_def, corr_def, num_beq, hw, hwi, hin, VL, VB, BEq.rfl, V1, V2, V3, V4, V5, V6, V7, V8, V9, V10, VE, Nat.reduceBEq, Nat.reduceAdd, Nat.reduceSub, Nat.reduceMul, Nat.reduceLeDiff, Nat.reduceLT, Nat.reduceEqDiff, Int.reduceBEq, Int.reduceBNe, Int.reduceLT, Int.reduceLE, Int.reduceAdd, Int.reduceSub, Int.reduceMul]
          · have hf : fitC (js.getD k []) c.cells = true := by simpa using h4
            have hyes : holds lb js c.cells k = true := by
              rw [holds, hf, show decide (lb.getD k 0 = (k : Int)) = true from by simpa using h3]; rfl
            rw [hyes] at hs
            simp only [if_true, putIn, hcl] at hs
            have hg2 : Good l m (putIn l i k ⟨lb, js, fd, be⟩) := Good.putIn ⟨g1, g2, g3, g4⟩ i k
            have hgc := hgr _ hg2
            have hcall := ih (i + 1) many _ (by omega) (by omega) hg2
            simp only [putIn, hcl] at hg2 hcall hgc
            obtain ⟨s2, hs2⟩ : ∃ s2, putC l r (i + 1) many ⟨lb.set i (k : Int), js.set k (joinC (js.getD k []) c.cells), fd, be⟩ = s2 := ⟨_, rfl⟩
            rw [hs2] at hs hcall hgc
            obtain ⟨lb2, js2, fd2, be2⟩ := s2
            have hjs2 : k < js2.length := by have := hgc.js; simp only at this; omega
            simp only [hf, getD_num, getD_row, getD_corr, hlbk, hjsk, hlbi, hil, hc, num_def, row_def, corr_def, num_beq, hw, hwi, hin, VL, VB, BEq.rfl, V1, V2, V3, V4, V5, V6, V7, V8, V9, V10, VE, Nat.reduceBEq, Nat.reduceAdd, Nat.reduceSub, Nat.reduceMul, Nat.reduceLeDiff, Nat.reduceLT, Nat.reduceEqDiff, Int.reduceBEq, Int.reduceBNe, Int.reduceLT, Int.reduceLE, Int.reduceAdd, Int.reduceSub, Int.reduceMul]
            refine ⟨Int.natCast_nonneg k, Int.natCast_nonneg i, ?_⟩
            refine CallX.mk (join_ok (js.getD k []) c.cells (by rw [hcm]; exact g3 k) (by have := g3 k; omega)) rfl ?_
            simp only [getD_num, getD_row, getD_corr, hlbk, hjsk, hlbi, hil, hc, num_def, row_def, corr_def, num_beq, hw, hwi, hin, VL, VB, BEq.rfl, V1, V2, V3, V4, V5, V6, V7, V8, V9, V10, VE, Nat.reduceBEq, Nat.reduceAdd, Nat.reduceSub, Nat.reduceMul, Nat.reduceLeDiff, Nat.reduceLT, Nat.reduceEqDiff, Int.reduceBEq, Int.reduceBNe, Int.reduceLT, Int.reduceLE, Int.reduceAdd, Int.reduceSub, Int.reduceMul]
            refine ⟨Int.natCast_nonneg i, Int.natCast_nonneg k, ?_⟩
            refine CallMVC.mk [] [] hcall ?_ ?_
            · simp only [nv, putBx, List.map_set, getD_num, getD_row, getD_corr, hlbk, hjsk, hlbi, hil, hc, num_def, row_def, corr_def, num_beq, hw, hwi, hin, VL, VB, BEq.rfl, V1, V2, V3, V4, V5, V6, V7, V8, V9, V10, VE, Nat.reduceBEq, Nat.reduceAdd, Nat.reduceSub, Nat.reduceMul, Nat.reduceLeDiff, Nat.reduceLT, Nat.reduceEqDiff, Int.reduceBEq, Int.reduceBNe, Int.reduceLT, Int.reduceLE, Int.reduceAdd, Int.reduceSub, Int.reduceMul]
            · simp only [putBx, hjs2, getD_num, getD_row, getD_corr, hlbk, hjsk, hlbi, hil, hc, num_def, row_def, corr_def, num_beq, hw, hwi, hin, VL, VB, BEq.rfl, V1, V2, V3, V4, V5, V6, V7, V8, V9, V10, VE, Nat.reduceBEq, Nat.reduceAdd, Nat.reduceSub, Nat.reduceMul, Nat.reduceLeDiff, Nat.reduceLT, Nat.reduceEqDiff, Int.reduceBEq, Int.reduceBNe, Int.reduceLT, Int.reduceLE, Int.reduceAdd, Int.reduceSub, Int.reduceMul]
              refine ⟨Int.natCast_nonneg k, k + 1, Enter.mk [] [] [] ?_, by omega, by show i - (k + 1) < i - k; omega⟩
              simp only [hs, putOut, List.map_set, getD_num, getD_row, getD_corr, hlbk, hjsk, hlbi, hil, hc, num_def, row_def, corr_def, num_beq, hw, hwi, hin, VL, VB, BEq.rfl, V1, V2, V3, V4, V5, V6, V7, V8, V9, V10, VE, Nat.reduceBEq, Nat.reduceAdd, Nat.reduceSub, Nat.reduceMul, Nat.reduceLeDiff, Nat.reduceLT, Nat.reduceEqDiff, Int.reduceBEq, Int.reduceBNe, Int.reduceLT, Int.reduceLE, Int.reduceAdd, Int.reduceSub, Int.reduceMul]
      · have hke : k = i := by
          have : ¬ k < i := by simpa using h
          omega
        subst hke
        have hg2 : Good l m (putNew l k ⟨lb, js, fd, be⟩) := Good.putNew hm ⟨g1, g2, g3, g4⟩ k hil
        have hcall := ih (k + 1) (many + 1) _ (by omega) (by omega) hg2
        simp only [putNew, hcl] at hcall
        simp only [getD_num, getD_row, getD_corr, hlbi, hjsi, hil, hc, num_def, row_def, corr_def, num_beq, hwi, hwm, hin, VL, VB, BEq.rfl, V1, V2, V3, V4, V5, V6, V7, V8, V9, V10, VE, Nat.reduceBEq, Nat.reduceAdd, Nat.reduceSub, Nat.reduceMul, Nat.reduceLeDiff, Nat.reduceLT, Nat.reduceEqDiff, Int.reduceBEq, Int.reduceBNe, Int.reduceLT, Int.reduceLE, Int.reduceAdd, Int.reduceSub, Int.reduceMul]
        refine ⟨Int.natCast_nonneg k, Int.natCast_nonneg k, Int.natCast_nonneg k, ?_⟩
        refine CallMVC.mk [] [] hcall ?_ ?_
        · simp only [nv, putBx, List.map_set, getD_num, getD_row, getD_corr, hlbi, hjsi, hil, hc, num_def, row_def, corr_def, num_beq, hwi, hwm, hin, VL, VB, BEq.rfl, V1, V2, V3, V4, V5, V6, V7, V8, V9, V10, VE, Nat.reduceBEq, Nat.reduceAdd, Nat.reduceSub, Nat.reduceMul, Nat.reduceLeDiff, Nat.reduceLT, Nat.reduceEqDiff, Int.reduceBEq, Int.reduceBNe, Int.reduceLT, Int.reduceLE, Int.reduceAdd, Int.reduceSub, Int.reduceMul]
        · simp only [nv, putBx, putNew, hcl, hsk, getD_num, getD_row, getD_corr, hlbi, hjsi, hil, hc, num_def, row_def, corr_def, num_beq, hwi, hwm, hin, VL, VB, BEq.rfl, V1, V2, V3, V4, V5, V6, V7, V8, V9, V10, VE, Nat.reduceBEq, Nat.reduceAdd, Nat.reduceSub, Nat.reduceMul, Nat.reduceLeDiff, Nat.reduceLT, Nat.reduceEqDiff, Int.reduceBEq, Int.reduceBNe, Int.reduceLT, Int.reduceLE, Int.reduceAdd, Int.reduceSub, Int.reduceMul]
          refine Enter.mk [] [] [] ?_
          simp only [getD_num, getD_row, getD_corr, hlbi, hjsi, hil, hc, num_def, row_def, corr_def, num_beq, hwi, hwm, hin, VL, VB, BEq.rfl, V1, V2, V3, V4, V5, V6, V7, V8, V9, V10, VE, Nat.reduceBEq, Nat.reduceAdd, Nat.reduceSub, Nat.reduceMul, Nat.reduceLeDiff, Nat.reduceLT, Nat.reduceEqDiff, Int.reduceBEq, Int.reduceBNe, Int.reduceLT, Int.reduceLE, Int.reduceAdd, Int.reduceSub, Int.reduceMul]

def putZero (l : List Corr) : PSt := ⟨List.replicate l.length 0, List.replicate l.length [], [], l.length + 1⟩
def lblC (l : List Corr) : PSt := putC l l.length 0 0 (putZero l)
theorem putZero_good (l : List Corr) (m : Nat) : Good l m (putZero l) := by
  refine ⟨by simp [putZero], by simp [putZero], fun j => ?_, Nat.le_refl _⟩
  simp only [putZero]
  by_cases h : j < l.length
  · simp [List.getD, h]
  · simp [List.getD, h]

theorem fewest_ok (l : List Corr) (hb : ∀ c ∈ l, c.cells.length * 16 ≤ 140737488355328) : Ok Try.prog E 24 [.c (corrs l)] (.tp [.c (nums (if checkC l 8 = 0 then (lblC l).fd else [])), nv (if checkC l 8 = 0 then (lblC l).be else 0), nv (checkC l 8)]) := by
  refine ok_of_vc (L := [(4, [(2, 3), (2, 4), (0, 5), (1, 5), (2, 5), (0, 6), (1, 6), (2, 6), (3, 6), (4, 6), (5, 6), (0, 7), (1, 7), (2, 7), (3, 7), (4, 7), (5, 7), (6, 7), (3, 8), (4, 8), (5, 8)])]) (ts := [2, 3, 4]) envOK mixed Try.func24 rfl (by kernel_rfl) rfl (by kernel_rfl) rfl fun hl => ?_
  simp only [Try.f24, nv, VL, VB, BEq.rfl, V1, V2, V3, V4, V5, V6, V7, V8, V9, V10, VE, Nat.reduceBEq, Nat.reduceAdd, Nat.reduceSub, Nat.reduceMul, Nat.reduceLeDiff, Nat.reduceLT, Nat.reduceEqDiff, Int.reduceBEq, Int.reduceBNe, Int.reduceLT, Int.reduceLE, Int.reduceAdd, Int.reduceSub, Int.reduceMul]
  refine CallX.mk (check_ok l 8) rfl ?_
  simp only [nv, VL, VB, BEq.rfl, V1, V2, V3, V4, V5, V6, V7, V8, V9, V10, VE, Nat.reduceBEq, Nat.reduceAdd, Nat.reduceSub, Nat.reduceMul, Nat.reduceLeDiff, Nat.reduceLT, Nat.reduceEqDiff, Int.reduceBEq, Int.reduceBNe, Int.reduceLT, Int.reduceLE, Int.reduceAdd, Int.reduceSub, Int.reduceMul]
  refine guardB.mk (fun h => ?_) (fun h => ?_)
  · have h0 : ¬ checkC l 8 = 0 := by simpa using h
    simp only [h0, if_false, VL, VB, BEq.rfl, V1, V2, V3, V4, V5, V6, V7, V8, V9, V10, VE, Nat.reduceBEq, Nat.reduceAdd, Nat.reduceSub, Nat.reduceMul, Nat.reduceLeDiff, Nat.reduceLT, Nat.reduceEqDiff, Int.reduceBEq, Int.reduceBNe, Int.reduceLT, Int.reduceLE, Int.reduceAdd, Int.reduceSub, Int.reduceMul]
    rfl
  · have h0 : checkC l 8 = 0 := by simpa using h
    have hn : l.length ≤ 8 := check_len (n := 8) h0
    have hm := list_lens (check_list (n := 8) h0)
    have hwn := wrap_nat (k := l.length) (by omega)
    have hcall : OkM Try.prog E 46 [nv 0, nv 0, .bp 2001 0, .bp 2002 0, .bp 2003 0, .bp 2004 0, .bp 2005 0, .bp 2006 0] (putBx l (putZero l)) (.tp []) (putBx l (lblC l)) := by
      cases l with
      | nil => exact put_ok [] 0 (fun c hc => by cases hc) (by omega) (by simp) 0 0 0 _ rfl (by omega) (putZero_good _ _)
      | cons c l => exact put_ok (c :: l) (headLen (c :: l)) hm (by rw [← hm c (List.mem_cons_self ..)]; exact hb c (List.mem_cons_self ..)) hn _ 0 0 _ (by simp) (by omega) (putZero_good _ _)
    simp only [h0, if_true, rep_num, rep_row, hwn, VL, VB, BEq.rfl, V1, V2, V3, V4, V5, V6, V7, V8, V9, V10, VE, Nat.reduceBEq, Nat.reduceAdd, Nat.reduceSub, Nat.reduceMul, Nat.reduceLeDiff, Nat.reduceLT, Nat.reduceEqDiff, Int.reduceBEq, Int.reduceBNe, Int.reduceLT, Int.reduceLE, Int.reduceAdd, Int.reduceSub, Int.reduceMul]
    refine ⟨⟨by omega, by omega⟩, ⟨by omega, by omega⟩, CallMVC.mk [] [(2001, 9), (2002, 1), (2003, 6), (2004, 8), (2005, 7), (2006, 10), (2013, 18), (2015, 21)] hcall ?_ ?_⟩
    · simp only [nv, putBx, putZero, VL, VB, BEq.rfl, V1, V2, V3, V4, V5, V6, V7, V8, V9, V10, VE, Nat.reduceBEq, Nat.reduceAdd, Nat.reduceSub, Nat.reduceMul, Nat.reduceLeDiff, Nat.reduceLT, Nat.reduceEqDiff, Int.reduceBEq, Int.reduceBNe, Int.reduceLT, Int.reduceLE, Int.reduceAdd, Int.reduceSub, Int.reduceMul]
      exact .inr rfl
    · simp only [nv, putBx, putZero, VL, VB, BEq.rfl, V1, V2, V3, V4, V5, V6, V7, V8, V9, V10, VE, Nat.reduceBEq, Nat.reduceAdd, Nat.reduceSub, Nat.reduceMul, Nat.reduceLeDiff, Nat.reduceLT, Nat.reduceEqDiff, Int.reduceBEq, Int.reduceBNe, Int.reduceLT, Int.reduceLE, Int.reduceAdd, Int.reduceSub, Int.reduceMul]

end Go.Cp
end

section
set_option linter.unusedVariables false
set_option linter.unusedSimpArgs false
set_option maxHeartbeats 8000000
set_option maxRecDepth 10000
namespace Go.Cp
open Go Go.Proofs Go.Vx

/-! maps of numbers -/
def aget (k : Int) : List (Int × Int) → Option Int
  | [] => none
  | p :: r => if k = p.1 then some p.2 else aget k r
def aput (k v : Int) : List (Int × Int) → List (Int × Int)
  | [] => [(k, v)]
  | p :: r => if k = p.1 then (k, v) :: r else p :: aput k v r
def pr (p : Int × Int) : Value × Value := (.int .i64 p.1, .int .i64 p.2)
theorem mfind_pr (k : Int) : ∀ es : List (Int × Int), mfind (.int .i64 k) (es.map pr) = (aget k es).map (.int .i64)
  | [] => rfl
  | p :: r => by
    have ih := mfind_pr k r
    simp only [List.map_cons, mfind, aget, pr, keyEq]
    by_cases h : k = p.1
    · simp [h]
    · have hb : (k == p.1) = false := by simpa using h
      rw [hb, if_neg h]
      exact ih
theorem mput_pr (k v : Int) : ∀ es : List (Int × Int), mput (.int .i64 k) (.int .i64 v) (es.map pr) = (aput k v es).map pr
  | [] => rfl
  | p :: r => by
    have ih := mput_pr k v r
    simp only [List.map_cons, mput, aput, pr, keyEq]
    by_cases h : k = p.1
    · simp [h, pr]
    · have hb : (k == p.1) = false := by simpa using h
      rw [hb, if_neg h]
      simp only [List.map_cons]
      exact congrArg _ ih
theorem aget_aput (k v j : Int) : ∀ es : List (Int × Int), aget j (aput k v es) = if j = k then some v else aget j es
  | [] => by simp only [aput, aget]
  | p :: r => by
    have ih := aget_aput k v j r
    simp only [aput]
    by_cases h : k = p.1
    · rw [if_pos h]
      simp only [aget]
      by_cases hj : j = k
      · rw [if_pos hj, if_pos hj]
      · rw [if_neg hj, if_neg hj, if_neg (by rw [← h]; exact hj)]
    · rw [if_neg h]
      simp only [aget]
      by_cases hj : j = p.1
      · rw [if_pos hj, if_pos hj, if_neg (by rw [hj]; exact fun e => h e.symm)]
      · rw [if_neg hj, if_neg hj]; exact ih

abbrev PatSt := List (List Cell) × List (Int × Int)
def countAt (l : List Corr) (i : Nat) : Int := (l.getD i Corr.zero).count
def patGo (l : List Corr) (labels : List Int) : Nat → Nat → PatSt → Option PatSt
  | 0, _, st => some st
  | r + 1, i, st =>
    if labels.getD i 0 = (i : Int) then patGo l labels r (i + 1) (st.1.set i (cellsAt l i), aput (labels.getD i 0) ((aget (labels.getD i 0) st.2).getD 0 + countAt l i) st.2)
    else if fitC (st.1.getD (labels.getD i 0).toNat []) (cellsAt l i) then patGo l labels r (i + 1) (st.1.set (labels.getD i 0).toNat (joinC (st.1.getD (labels.getD i 0).toNat []) (cellsAt l i)), aput (labels.getD i 0) ((aget (labels.getD i 0) st.2).getD 0 + countAt l i) st.2)
    else none
def pat0 (l : List Corr) : PatSt := (List.replicate l.length [], [])
def patC (l : List Corr) (labels : List Int) : Option PatSt := patGo l labels l.length 0 (pat0 l)
def outTo (labels : List Int) (st : PatSt) (k : Nat) : List Corr := (List.range k).filterMap fun i => if labels.getD i 0 = (i : Int) then some ⟨st.1.getD i [], (aget i st.2).getD 0⟩ else none
theorem outTo_succ (labels : List Int) (st : PatSt) (k : Nat) : outTo labels st (k + 1) = outTo labels st k ++ (if labels.getD k 0 = (k : Int) then [⟨st.1.getD k [], (aget k st.2).getD 0⟩] else []) := by
  simp only [outTo, List.range_succ, List.filterMap_append, List.filterMap_cons, List.filterMap_nil]
  split <;> rename_i h <;> split at h <;> simp_all
theorem outTo_len (labels : List Int) (st : PatSt) (k : Nat) : (outTo labels st k).length ≤ k := by
  refine Nat.le_trans (List.length_filterMap_le _ _) ?_
  rw [List.length_range]; exact Nat.le_refl _
def patE (l : List Corr) (labels : List Int) : Int := if checkC l 256 ≠ 0 then checkC l 256 else if labels.length = l.length ∧ canonC labels = true then (if (patC l labels).isSome then 0 else 8) else 2
def patO (l : List Corr) (labels : List Int) : List Corr := if patE l labels = 0 then outTo labels ((patC l labels).getD ([], [])) labels.length else []

structure PatOK (l : List Corr) (m i : Nat) (st : PatSt) : Prop where
  js : st.1.length = l.length
  le : ∀ j, (st.1.getD j []).length ≤ m
  lo : ∀ k, 0 ≤ (aget k st.2).getD 0
  hi : ∀ k, (aget k st.2).getD 0 ≤ i * 1073741824
theorem canon_at {labels : List Int} (h : canonC labels = true) {i : Nat} (hi : i < labels.length) : 0 ≤ labels.getD i 0 ∧ labels.getD i 0 ≤ i ∧ labels.getD (labels.getD i 0).toNat 0 = labels.getD i 0 := by
  have := List.all_eq_true.1 h i (List.mem_range.2 hi)
  simp only [canonAt, Bool.and_eq_true, Bool.not_eq_true', decide_eq_false_iff_not, decide_eq_true_eq] at this
  omega
theorem list_count {l : List Corr} (h : listC l = true) : ∀ c ∈ l, 0 ≤ c.count ∧ c.count ≤ 1073741824 := fun c hc => by
  have := List.all_eq_true.1 h c hc
  simp only [corrB, Bool.and_eq_true, Bool.not_eq_true', decide_eq_true_eq, decide_eq_false_iff_not] at this
  omega
theorem PatOK.next {l : List Corr} {m i : Nat} {st : PatSt} (h : PatOK l m i st) (j : Nat) (x : List Cell) (hx : x.length ≤ m) (k c : Int) (h0 : 0 ≤ c) (h1 : c ≤ 1073741824) : PatOK l m (i + 1) (st.1.set j x, aput k ((aget k st.2).getD 0 + c) st.2) := by
  refine ⟨by rw [List.length_set]; exact h.js, fun j' => ?_, fun k' => ?_, fun k' => ?_⟩
  · simp only [getD_set]
    split
    · exact hx
    · exact h.le j'
  · have := h.lo k
    have := h.lo k'
    simp only [aget_aput]
    split
    · simp only [Option.getD_some]; omega
    · omega
  · have := h.hi k
    have := h.hi k'
    simp only [aget_aput]
    split
    · simp only [Option.getD_some]; omega
    · omega

theorem lookOpt_pr (z : Value) (hz : z = .int .i64 0) (o : Option Int) : lookOpt false z (o.map (.int .i64)) = .val (.c (.sc (.int .i64 (o.getD 0)))) [] := by
  subst hz
  cases o <;> rfl

theorem patterns_ok (l : List Corr) (labels : List Int) (hb : ∀ c ∈ l, c.cells.length * 16 ≤ 140737488355328) : Ok Try.prog E 28 [.c (corrs l), .c (nums labels)] (.tp [.fr 52 ((patO l labels).map Corr.enc), nv (patE l labels)]) := by
  refine ok_of_vc (L := []) (ts := [4, 5]) envOK mixed Try.func28 rfl (by kernel_rfl) rfl (by kernel_rfl) rfl fun hl => ?_
  simp only [Try.f28, nv, len_ne', num_beq, VL, VB, BEq.rfl, V1, V2, V3, V4, V5, V6, V7, V8, V9, V10, VE, Nat.reduceBEq, Nat.reduceAdd, Nat.reduceSub, Nat.reduceMul, Nat.reduceLeDiff, Nat.reduceLT, Nat.reduceEqDiff, Int.reduceBEq, Int.reduceBNe, Int.reduceLT, Int.reduceLE, Int.reduceAdd, Int.reduceSub, Int.reduceMul]
  refine CallX.mk (check_ok l 256) rfl ?_
  simp only [nv, len_ne', num_beq, VL, VB, BEq.rfl, V1, V2, V3, V4, V5, V6, V7, V8, V9, V10, VE, Nat.reduceBEq, Nat.reduceAdd, Nat.reduceSub, Nat.reduceMul, Nat.reduceLeDiff, Nat.reduceLT, Nat.reduceEqDiff, Int.reduceBEq, Int.reduceBNe, Int.reduceLT, Int.reduceLE, Int.reduceAdd, Int.reduceSub, Int.reduceMul]
  refine guardB.mk (fun h => ?_) (fun h => ?_)
  · have h0 : ¬ checkC l 256 = 0 := by simpa using h
    have he : patE l labels = checkC l 256 := by rw [patE, if_pos h0]
    simp only [patO, he, h0, if_false, Option.isSome_some, List.map_nil, len_ne', num_beq, VL, VB, BEq.rfl, V1, V2, V3, V4, V5, V6, V7, V8, V9, V10, VE, Nat.reduceBEq, Nat.reduceAdd, Nat.reduceSub, Nat.reduceMul, Nat.reduceLeDiff, Nat.reduceLT, Nat.reduceEqDiff, Int.reduceBEq, Int.reduceBNe, Int.reduceLT, Int.reduceLE, Int.reduceAdd, Int.reduceSub, Int.reduceMul]
  have h0 : checkC l 256 = 0 := by simpa using h
  have hn : l.length ≤ 256 := check_len (n := 256) h0
  have hm := list_lens (check_list (n := 256) h0)
  have hcnt := list_count (check_list (n := 256) h0)
  have hpe : patE l labels = if labels.length = l.length ∧ canonC labels = true then (if (patC l labels).isSome then 0 else 8) else 2 := by rw [patE, if_neg (by simpa using h0)]
  simp only [len_ne', num_beq, VL, VB, BEq.rfl, V1, V2, V3, V4, V5, V6, V7, V8, V9, V10, VE, Nat.reduceBEq, Nat.reduceAdd, Nat.reduceSub, Nat.reduceMul, Nat.reduceLeDiff, Nat.reduceLT, Nat.reduceEqDiff, Int.reduceBEq, Int.reduceBNe, Int.reduceLT, Int.reduceLE, Int.reduceAdd, Int.reduceSub, Int.reduceMul]
  refine guardB.mk (fun h => ?_) (fun h => ?_)
  · have hne : ¬ labels.length = l.length := by simp at h; omega
    have he : patE l labels = 2 := by rw [hpe, if_neg (fun h => hne h.1)]
    have h2 : ¬ (2 : Int) = 0 := by omega
    simp only [patO, he, h2, h, if_false, Option.isSome_some, List.map_nil, len_ne', num_beq, VL, VB, BEq.rfl, V1, V2, V3, V4, V5, V6, V7, V8, V9, V10, VE, Nat.reduceBEq, Nat.reduceAdd, Nat.reduceSub, Nat.reduceMul, Nat.reduceLeDiff, Nat.reduceLT, Nat.reduceEqDiff, Int.reduceBEq, Int.reduceBNe, Int.reduceLT, Int.reduceLE, Int.reduceAdd, Int.reduceSub, Int.reduceMul]
  have hlen : labels.length = l.length := by simp at h; omega
  simp only [h, len_ne', num_beq, VL, VB, BEq.rfl, V1, V2, V3, V4, V5, V6, V7, V8, V9, V10, VE, Nat.reduceBEq, Nat.reduceAdd, Nat.reduceSub, Nat.reduceMul, Nat.reduceLeDiff, Nat.reduceLT, Nat.reduceEqDiff, Int.reduceBEq, Int.reduceBNe, Int.reduceLT, Int.reduceLE, Int.reduceAdd, Int.reduceSub, Int.reduceMul]
  refine CallX.mk (canonical_ok labels) rfl ?_
  simp only [bv, len_ne', num_beq, VL, VB, BEq.rfl, V1, V2, V3, V4, V5, V6, V7, V8, V9, V10, VE, Nat.reduceBEq, Nat.reduceAdd, Nat.reduceSub, Nat.reduceMul, Nat.reduceLeDiff, Nat.reduceLT, Nat.reduceEqDiff, Int.reduceBEq, Int.reduceBNe, Int.reduceLT, Int.reduceLE, Int.reduceAdd, Int.reduceSub, Int.reduceMul]
  refine guardB.mk (fun h => ?_) (fun h => ?_)
  · have hc : canonC labels = false := by simpa using h
    have he : patE l labels = 2 := by rw [hpe, if_neg (fun h => by rw [hc] at h; cases h.2)]
    have h2 : ¬ (2 : Int) = 0 := by omega
    simp only [patO, he, h2, h, if_false, Option.isSome_some, List.map_nil, len_ne', num_beq, VL, VB, BEq.rfl, V1, V2, V3, V4, V5, V6, V7, V8, V9, V10, VE, Nat.reduceBEq, Nat.reduceAdd, Nat.reduceSub, Nat.reduceMul, Nat.reduceLeDiff, Nat.reduceLT, Nat.reduceEqDiff, Int.reduceBEq, Int.reduceBNe, Int.reduceLT, Int.reduceLE, Int.reduceAdd, Int.reduceSub, Int.reduceMul]
  have hc : canonC labels = true := by simpa using h
  rw [if_pos ⟨hlen, hc⟩] at hpe
  simp only [h, rep_row, len_ne', num_beq, VL, VB, BEq.rfl, V1, V2, V3, V4, V5, V6, V7, V8, V9, V10, VE, Nat.reduceBEq, Nat.reduceAdd, Nat.reduceSub, Nat.reduceMul, Nat.reduceLeDiff, Nat.reduceLT, Nat.reduceEqDiff, Int.reduceBEq, Int.reduceBNe, Int.reduceLT, Int.reduceLE, Int.reduceAdd, Int.reduceSub, Int.reduceMul]
  refine ⟨⟨by omega, by omega⟩, ?_⟩
  refine LoopVC.cut (Y := Nat × PatSt) (Z := PatSt) 0 (fun y => y.1 ≤ l.length ∧ PatOK l (headLen l) y.1 y.2 ∧ patGo l labels (l.length - y.1) y.1 y.2 = patC l labels)
    (fun y => ⟨[(0, .c (corrs l)), (1, .c (nums labels)), (7, .mp 29), (8, .osl 32 0), (33, .c (nums labels)), (34, .c (.sc (.int .i64 l.length))), (35, .c (.sc (.int .i64 y.1)))], [(29, .map 3 3 (y.2.2.map pr)), (32, .arr 22 0 (y.2.1.map rowD))]⟩) (fun y => l.length - y.1)
    (fun st => patC l labels = some st ∧ PatOK l (headLen l) l.length st) (fun st => ⟨[(1, .c (nums labels)), (7, .mp 29), (8, .osl 32 0)], [(29, .map 3 3 (st.2.map pr)), (32, .arr 22 0 (st.1.map rowD))]⟩) ⟨(0, pat0 l), Enter.id ?_, ?_⟩ ?_ ?_
  · simp only [pat0, List.map_nil, hlen, len_ne', num_beq, VL, VB, BEq.rfl, V1, V2, V3, V4, V5, V6, V7, V8, V9, V10, VE, Nat.reduceBEq, Nat.reduceAdd, Nat.reduceSub, Nat.reduceMul, Nat.reduceLeDiff, Nat.reduceLT, Nat.reduceEqDiff, Int.reduceBEq, Int.reduceBNe, Int.reduceLT, Int.reduceLE, Int.reduceAdd, Int.reduceSub, Int.reduceMul]
    rfl
  · refine ⟨Nat.zero_le _, ⟨by simp [pat0], fun j => ?_, fun k => ?_, fun k => ?_⟩, rfl⟩
    · simp only [pat0]
      by_cases h : j < l.length
      · simp [List.getD, h]
      · simp [List.getD, h]
    · simp [pat0, aget]
    · simp [pat0, aget]
  · rintro ⟨i, js, es⟩ ⟨hi, hok, hgo⟩
    simp only at hi hok hgo
    simp only [lt_nat, len_ne', num_beq, VL, VB, BEq.rfl, V1, V2, V3, V4, V5, V6, V7, V8, V9, V10, VE, Nat.reduceBEq, Nat.reduceAdd, Nat.reduceSub, Nat.reduceMul, Nat.reduceLeDiff, Nat.reduceLT, Nat.reduceEqDiff, Int.reduceBEq, Int.reduceBNe, Int.reduceLT, Int.reduceLE, Int.reduceAdd, Int.reduceSub, Int.reduceMul]
    refine guardB.mk (fun h => ?_) (fun h => ?_) <;> simp only [h, len_ne', num_beq, VL, VB, BEq.rfl, V1, V2, V3, V4, V5, V6, V7, V8, V9, V10, VE, Nat.reduceBEq, Nat.reduceAdd, Nat.reduceSub, Nat.reduceMul, Nat.reduceLeDiff, Nat.reduceLT, Nat.reduceEqDiff, Int.reduceBEq, Int.reduceBNe, Int.reduceLT, Int.reduceLE, Int.reduceAdd, Int.reduceSub, Int.reduceMul]
    · have hi' : i < l.length := by simpa using h
      have hil : i < labels.length := by omega
      obtain ⟨hc0, hc1, hc2⟩ := canon_at hc hil
      obtain ⟨kn, hkn⟩ := Int.eq_ofNat_of_zero_le hc0
      rw [hkn] at hc1
      obtain ⟨c, hcd⟩ : ∃ c, l.getD i Corr.zero = c := ⟨_, rfl⟩
      have hcl : cellsAt l i = c.cells := by rw [cellsAt, hcd]
      have hct : countAt l i = c.count := by rw [countAt, hcd]
      have hcmem : c ∈ l := by rw [← hcd]; exact getD_mem hi'
      have hcm := hm c hcmem
      obtain ⟨hq0, hq1⟩ := hcnt c hcmem
      have hcb := hb c hcmem
      obtain ⟨g1, g2, g3, g4⟩ := hok
      simp only at g1 g2 g3 g4
      have hw := wrap_nat (k := i) (by omega)
      have hjs1 : i < js.length := by omega
      have hjs2 : kn < js.length := by omega
      have e3 := g3 (kn : Int)
      have e4 := g4 (kn : Int)
      have hsum : IntKind.i64.wrap ((aget (kn : Int) es).getD 0 + c.count) = (aget (kn : Int) es).getD 0 + c.count := wrap_of (by omega) (by omega)
      rw [show l.length - i = (l.length - (i + 1)) + 1 by omega, patGo, hkn, hcl, hct] at hgo
      have hne1 := PatOK.next (st := (js, es)) ⟨g1, g2, g3, g4⟩ i c.cells (by omega) (kn : Int) c.count hq0 hq1
      have hne2 := PatOK.next (st := (js, es)) ⟨g1, g2, g3, g4⟩ kn (joinC (js.getD kn []) c.cells) (Nat.le_trans (joinC_len_le _ _) (g2 kn)) (kn : Int) c.count hq0 hq1
      simp only [getD_num, getD_row, getD_corr, hil, hi', hjs1, hjs2, hkn, hcd, num_def, row_def, corr_def, int_beq, hw, mfind_pr, mput_pr, lookOpt_pr _ rfl, hsum, kAgg, len_ne', num_beq, VL, VB, BEq.rfl, V1, V2, V3, V4, V5, V6, V7, V8, V9, V10, VE, Nat.reduceBEq, Nat.reduceAdd, Nat.reduceSub, Nat.reduceMul, Nat.reduceLeDiff, Nat.reduceLT, Nat.reduceEqDiff, Int.reduceBEq, Int.reduceBNe, Int.reduceLT, Int.reduceLE, Int.reduceAdd, Int.reduceSub, Int.reduceMul]
      refine ⟨Int.natCast_nonneg i, guardB.mk (fun h3 => ?_) (fun h3 => ?_)⟩ <;> simp only [h3, getD_num, getD_row, getD_corr, hil, hi', hjs1, hjs2, hkn, hcd, num_def, row_def, corr_def, int_beq, hw, mfind_pr, mput_pr, lookOpt_pr _ rfl, hsum, kAgg, len_ne', num_beq, VL, VB, BEq.rfl, V1, V2, V3, V4, V5, V6, V7, V8, V9, V10, VE, Nat.reduceBEq, Nat.reduceAdd, Nat.reduceSub, Nat.reduceMul, Nat.reduceLeDiff, Nat.reduceLT, Nat.reduceEqDiff, Int.reduceBEq, Int.reduceBNe, Int.reduceLT, Int.reduceLE, Int.reduceAdd, Int.reduceSub, Int.reduceMul]
      · have hki : (kn : Int) = i := by simpa using h3
        rw [if_pos hki] at hgo
        refine ⟨Int.natCast_nonneg i, ⟨by omega, allLen_enc _⟩, Int.natCast_nonneg i, Int.natCast_nonneg i, (i + 1, (js.set i c.cells, aput (kn : Int) ((aget (kn : Int) es).getD 0 + c.count) es)), Enter.id ?_, ⟨by show i + 1 ≤ _; omega, hne1, hgo⟩, by show l.length - (i + 1) < l.length - i; omega⟩
        simp only [List.map_set, getD_num, getD_row, getD_corr, hil, hi', hjs1, hjs2, hkn, hcd, num_def, row_def, corr_def, int_beq, hw, mfind_pr, mput_pr, lookOpt_pr _ rfl, hsum, kAgg, len_ne', num_beq, VL, VB, BEq.rfl, V1, V2, V3, V4, V5, V6, V7, V8, V9, V10, VE, Nat.reduceBEq, Nat.reduceAdd, Nat.reduceSub, Nat.reduceMul, Nat.reduceLeDiff, Nat.reduceLT, Nat.reduceEqDiff, Int.reduceBEq, Int.reduceBNe, Int.reduceLT, Int.reduceLE, Int.reduceAdd, Int.reduceSub, Int.reduceMul]
      · have hki : ¬ (kn : Int) = i := by simpa using h3
        rw [if_neg hki] at hgo
        simp only [Int.toNat_natCast] at hgo
        refine ⟨Int.natCast_nonneg kn, Int.natCast_nonneg i, ?_⟩
        refine CallX.mk (fit_ok (js.getD kn []) c.cells (by rw [hcm]; exact g2 kn)) rfl ?_
        simp only [getD_num, getD_row, getD_corr, hil, hi', hjs1, hjs2, hkn, hcd, num_def, row_def, corr_def, int_beq, hw, mfind_pr, mput_pr, lookOpt_pr _ rfl, hsum, kAgg, len_ne', num_beq, VL, VB, BEq.rfl, V1, V2, V3, V4, V5, V6, V7, V8, V9, V10, VE, Nat.reduceBEq, Nat.reduceAdd, Nat.reduceSub, Nat.reduceMul, Nat.reduceLeDiff, Nat.reduceLT, Nat.reduceEqDiff, Int.reduceBEq, Int.reduceBNe, Int.reduceLT, Int.reduceLE, Int.reduceAdd, Int.reduceSub, Int.reduceMul]
        refine guardB.mk (fun h4 => ?_) (fun h4 => ?_)
        · have hf : fitC (js.getD kn []) c.cells = false := by simpa using h4
          rw [if_neg (by rw [hf]; simp)] at hgo
          have he : patE l labels = 8 := by rw [hpe, ← hgo]; rfl
          have h8 : ¬ (8 : Int) = 0 := by omega
          simp only [hf, patO, he, h8, if_false, Option.isSome_some, List.map_nil, getD_num, getD_row, getD_corr, hil, hi', hjs1, hjs2, hkn, hcd, num_def, row_def, corr_def, int_beq, hw, mfind_pr, mput_pr, lookOpt_pr _ rfl, hsum, kAgg, len_ne', num_beq, VL, VB, BEq.rfl, V1, V2, V3, V4, V5, V6, V7, V8, V9, V10, VE, Nat.reduceBEq, Nat.reduceAdd, Nat.reduceSub, Nat.reduceMul, Nat.reduceLeDiff, Nat.reduceLT, Nat.reduceEqDiff, Int.reduceBEq, Int.reduceBNe, Int.reduceLT, Int.reduceLE, Int.reduceAdd, Int.reduceSub, Int.reduceMul]
        · have hf : fitC (js.getD kn []) c.cells = true := by simpa using h4
          rw [if_pos hf] at hgo
          simp only [hf, getD_num, getD_row, getD_corr, hil, hi', hjs1, hjs2, hkn, hcd, num_def, row_def, corr_def, int_beq, hw, mfind_pr, mput_pr, lookOpt_pr _ rfl, hsum, kAgg, len_ne', num_beq, VL, VB, BEq.rfl, V1, V2, V3, V4, V5, V6, V7, V8, V9, V10, VE, Nat.reduceBEq, Nat.reduceAdd, Nat.reduceSub, Nat.reduceMul, Nat.reduceLeDiff, Nat.reduceLT, Nat.reduceEqDiff, Int.reduceBEq, Int.reduceBNe, Int.reduceLT, Int.reduceLE, Int.reduceAdd, Int.reduceSub, Int.reduceMul]
          refine ⟨Int.natCast_nonneg kn, Int.natCast_nonneg i, ?_⟩
          refine CallX.mk (join_ok (js.getD kn []) c.cells (by rw [hcm]; exact g2 kn) (by have := g2 kn; omega)) rfl ?_
          simp only [getD_num, getD_row, getD_corr, hil, hi', hjs1, hjs2, hkn, hcd, num_def, row_def, corr_def, int_beq, hw, mfind_pr, mput_pr, lookOpt_pr _ rfl, hsum, kAgg, len_ne', num_beq, VL, VB, BEq.rfl, V1, V2, V3, V4, V5, V6, V7, V8, V9, V10, VE, Nat.reduceBEq, Nat.reduceAdd, Nat.reduceSub, Nat.reduceMul, Nat.reduceLeDiff, Nat.reduceLT, Nat.reduceEqDiff, Int.reduceBEq, Int.reduceBNe, Int.reduceLT, Int.reduceLE, Int.reduceAdd, Int.reduceSub, Int.reduceMul]
          refine ⟨Int.natCast_nonneg kn, Int.natCast_nonneg i, (i + 1, (js.set kn (joinC (js.getD kn []) c.cells), aput (kn : Int) ((aget (kn : Int) es).getD 0 + c.count) es)), Enter.id ?_, ⟨by show i + 1 ≤ _; omega, hne2, hgo⟩, by show l.length - (i + 1) < l.length - i; omega⟩
          simp only [List.map_set, getD_num, getD_row, getD_corr, hil, hi', hjs1, hjs2, hkn, hcd, num_def, row_def, corr_def, int_beq, hw, mfind_pr, mput_pr, lookOpt_pr _ rfl, hsum, kAgg, len_ne', num_beq, VL, VB, BEq.rfl, V1, V2, V3, V4, V5, V6, V7, V8, V9, V10, VE, Nat.reduceBEq, Nat.reduceAdd, Nat.reduceSub, Nat.reduceMul, Nat.reduceLeDiff, Nat.reduceLT, Nat.reduceEqDiff, Int.reduceBEq, Int.reduceBNe, Int.reduceLT, Int.reduceLE, Int.reduceAdd, Int.reduceSub, Int.reduceMul]
    · have hie : i = l.length := by
        have : ¬ i < l.length := by simpa using h
        omega
      subst hie
      rw [Nat.sub_self, patGo] at hgo
      refine ⟨(js, es), Enter.id ?_, hgo.symm, hok⟩
      simp only [len_ne', num_beq, VL, VB, BEq.rfl, V1, V2, V3, V4, V5, V6, V7, V8, V9, V10, VE, Nat.reduceBEq, Nat.reduceAdd, Nat.reduceSub, Nat.reduceMul, Nat.reduceLeDiff, Nat.reduceLT, Nat.reduceEqDiff, Int.reduceBEq, Int.reduceBNe, Int.reduceLT, Int.reduceLE, Int.reduceAdd, Int.reduceSub, Int.reduceMul]
  · rintro ⟨js, es⟩ ⟨hpc, hok⟩
    have he : patE l labels = 0 := by rw [hpe, hpc]; rfl
    have ho : patO l labels = outTo labels (js, es) labels.length := by rw [patO, if_pos he, hpc]; rfl
    obtain ⟨g1, g2, g3, g4⟩ := hok
    simp only at g1 g2 g3 g4
    simp only [len_ne', num_beq, VL, VB, BEq.rfl, V1, V2, V3, V4, V5, V6, V7, V8, V9, V10, VE, Nat.reduceBEq, Nat.reduceAdd, Nat.reduceSub, Nat.reduceMul, Nat.reduceLeDiff, Nat.reduceLT, Nat.reduceEqDiff, Int.reduceBEq, Int.reduceBNe, Int.reduceLT, Int.reduceLE, Int.reduceAdd, Int.reduceSub, Int.reduceMul]
    refine LoopVC.mk (Y := Nat) (fun i => i ≤ labels.length) (fun i => ⟨[(7, .mp 29), (8, .osl 32 0), (11, .osl 1000 0), (87, .c (nums labels)), (88, .c (.sc (.int .i64 labels.length))), (89, .c (.sc (.int .i64 i)))], [(29, .map 3 3 (es.map pr)), (32, .arr 22 0 (js.map rowD)), (1000, .arr 52 0 ((outTo labels (js, es) i).map Corr.enc))]⟩) (fun i => labels.length - i) ⟨0, Enter.mk [(11, (1000, 52))] [] [] ?_, by omega⟩ ?_
    · simp only [outTo, List.range_zero, List.filterMap_nil, List.map_nil, Option.isSome_some, len_ne', num_beq, VL, VB, BEq.rfl, V1, V2, V3, V4, V5, V6, V7, V8, V9, V10, VE, Nat.reduceBEq, Nat.reduceAdd, Nat.reduceSub, Nat.reduceMul, Nat.reduceLeDiff, Nat.reduceLT, Nat.reduceEqDiff, Int.reduceBEq, Int.reduceBNe, Int.reduceLT, Int.reduceLE, Int.reduceAdd, Int.reduceSub, Int.reduceMul]
      rfl
    intro i hi
    simp only [lt_nat, len_ne', num_beq, VL, VB, BEq.rfl, V1, V2, V3, V4, V5, V6, V7, V8, V9, V10, VE, Nat.reduceBEq, Nat.reduceAdd, Nat.reduceSub, Nat.reduceMul, Nat.reduceLeDiff, Nat.reduceLT, Nat.reduceEqDiff, Int.reduceBEq, Int.reduceBNe, Int.reduceLT, Int.reduceLE, Int.reduceAdd, Int.reduceSub, Int.reduceMul]
    refine guardB.mk (fun h => ?_) (fun h => ?_) <;> simp only [h, len_ne', num_beq, VL, VB, BEq.rfl, V1, V2, V3, V4, V5, V6, V7, V8, V9, V10, VE, Nat.reduceBEq, Nat.reduceAdd, Nat.reduceSub, Nat.reduceMul, Nat.reduceLeDiff, Nat.reduceLT, Nat.reduceEqDiff, Int.reduceBEq, Int.reduceBNe, Int.reduceLT, Int.reduceLE, Int.reduceAdd, Int.reduceSub, Int.reduceMul]
    · have hil : i < labels.length := by simpa using h
      have hjs1 : i < js.length := by omega
      have hw := wrap_nat (k := i) (by omega)
      have hs := outTo_succ labels (js, es) i
      have hln := outTo_len labels (js, es) i
      simp only [getD_num, getD_row, hil, hjs1, num_def, row_def, int_beq, hw, mfind_pr, lookOpt_pr _ rfl, kAgg, len_ne', num_beq, VL, VB, BEq.rfl, V1, V2, V3, V4, V5, V6, V7, V8, V9, V10, VE, Nat.reduceBEq, Nat.reduceAdd, Nat.reduceSub, Nat.reduceMul, Nat.reduceLeDiff, Nat.reduceLT, Nat.reduceEqDiff, Int.reduceBEq, Int.reduceBNe, Int.reduceLT, Int.reduceLE, Int.reduceAdd, Int.reduceSub, Int.reduceMul]
      refine ⟨Int.natCast_nonneg i, guardB.mk (fun h3 => ?_) (fun h3 => ?_)⟩ <;> simp only [h3, getD_num, getD_row, hil, hjs1, num_def, row_def, int_beq, hw, mfind_pr, lookOpt_pr _ rfl, kAgg, len_ne', num_beq, VL, VB, BEq.rfl, V1, V2, V3, V4, V5, V6, V7, V8, V9, V10, VE, Nat.reduceBEq, Nat.reduceAdd, Nat.reduceSub, Nat.reduceMul, Nat.reduceLeDiff, Nat.reduceLT, Nat.reduceEqDiff, Int.reduceBEq, Int.reduceBNe, Int.reduceLT, Int.reduceLE, Int.reduceAdd, Int.reduceSub, Int.reduceMul]
      · rw [if_pos (by simpa using h3)] at hs
        refine ⟨Int.natCast_nonneg i, ⟨by omega, allLen_one rfl⟩, i + 1, Enter.id ?_, by omega, by show labels.length - (i + 1) < labels.length - i; omega⟩
        simp only [hs, List.map_append, corr_def, getD_num, getD_row, hil, hjs1, num_def, row_def, int_beq, hw, mfind_pr, lookOpt_pr _ rfl, kAgg, len_ne', num_beq, VL, VB, BEq.rfl, V1, V2, V3, V4, V5, V6, V7, V8, V9, V10, VE, Nat.reduceBEq, Nat.reduceAdd, Nat.reduceSub, Nat.reduceMul, Nat.reduceLeDiff, Nat.reduceLT, Nat.reduceEqDiff, Int.reduceBEq, Int.reduceBNe, Int.reduceLT, Int.reduceLE, Int.reduceAdd, Int.reduceSub, Int.reduceMul]
      · rw [if_neg (by simpa using h3), List.append_nil] at hs
        refine ⟨i + 1, Enter.id ?_, by omega, by show labels.length - (i + 1) < labels.length - i; omega⟩
        simp only [hs, getD_num, getD_row, hil, hjs1, num_def, row_def, int_beq, hw, mfind_pr, lookOpt_pr _ rfl, kAgg, len_ne', num_beq, VL, VB, BEq.rfl, V1, V2, V3, V4, V5, V6, V7, V8, V9, V10, VE, Nat.reduceBEq, Nat.reduceAdd, Nat.reduceSub, Nat.reduceMul, Nat.reduceLeDiff, Nat.reduceLT, Nat.reduceEqDiff, Int.reduceBEq, Int.reduceBNe, Int.reduceLT, Int.reduceLE, Int.reduceAdd, Int.reduceSub, Int.reduceMul]
    · have hie : i = labels.length := by
        have : ¬ i < labels.length := by simpa using h
        omega
      subst hie
      simp only [ho, he, len_ne', num_beq, VL, VB, BEq.rfl, V1, V2, V3, V4, V5, V6, V7, V8, V9, V10, VE, Nat.reduceBEq, Nat.reduceAdd, Nat.reduceSub, Nat.reduceMul, Nat.reduceLeDiff, Nat.reduceLT, Nat.reduceEqDiff, Int.reduceBEq, Int.reduceBNe, Int.reduceLT, Int.reduceLE, Int.reduceAdd, Int.reduceSub, Int.reduceMul]

end Go.Cp
end
