/-
  Compat: Predict. Conditions: none.
  Compat: the examples work. Conditions: none.
  Compat: the arguments of the laws as data. Conditions: none.
-/
import Derived.Test.YtiafkdnbfpfmiaaMF
import Derived.Test.YtiafkdnbfpfmiaaMG
import Derived.Test.YtiafkdnbfpfmiaaMD

section
set_option linter.unusedVariables false
set_option linter.unusedSimpArgs false
set_option maxHeartbeats 8000000
set_option maxRecDepth 10000
namespace Go.Cp
open Go Go.Proofs Go.Vx

def mixF (f : Cell → Cell → Cell) (xs ys : List Cell) (k : Nat) : List Cell := (List.zipWith f xs ys).take k ++ xs.drop k
section
variable {f : Cell → Cell → Cell} {xs ys : List Cell} {k : Nat}
theorem zipF_len (h : xs.length ≤ ys.length) : (List.zipWith f xs ys).length = xs.length := by rw [List.length_zipWith]; omega
theorem mixF_len (h : xs.length ≤ ys.length) (hk : k ≤ xs.length) : (mixF f xs ys k).length = xs.length := by
  simp only [mixF, List.length_append, List.length_take, List.length_drop, zipF_len h]; omega
theorem mixF_zero : mixF f xs ys 0 = xs := by simp [mixF]
theorem mixF_all (h : xs.length ≤ ys.length) (hk : ¬ k < xs.length) : mixF f xs ys k = List.zipWith f xs ys := by
  have : (List.zipWith f xs ys).length = xs.length := zipF_len h
  simp only [mixF]
  rw [List.take_of_length_le (by omega), List.drop_eq_nil_of_le (by omega), List.append_nil]
theorem mixF_get (h : xs.length ≤ ys.length) (hk : k < xs.length) : (mixF f xs ys k).getD k Cell.zero = xs.getD k Cell.zero := by
  have hl : ((List.zipWith f xs ys).take k).length = k := by rw [List.length_take, zipF_len h]; omega
  simp only [mixF, List.getD]
  rw [List.getElem?_append_right (by omega), hl, Nat.sub_self, List.getElem?_drop, Nat.add_zero]
theorem mixF_next (h : xs.length ≤ ys.length) (hk : k < xs.length) : (mixF f xs ys k).set k (f (xs.getD k Cell.zero) (ys.getD k Cell.zero)) = mixF f xs ys (k + 1) := by
  have hl : ((List.zipWith f xs ys).take k).length = k := by rw [List.length_take, zipF_len h]; omega
  have hj : (List.zipWith f xs ys)[k]? = some (f (xs.getD k Cell.zero) (ys.getD k Cell.zero)) := by
    simp only [List.getElem?_zipWith, List.getElem?_eq_getElem hk, List.getElem?_eq_getElem (show k < ys.length by omega), List.getD, Option.getD_some]
  apply List.ext_getElem?
  intro i
  rw [List.getElem?_set]
  have hml := mixF_len (f := f) h (Nat.le_of_lt hk)
  by_cases hi : k = i
  · subst hi
    rw [if_pos rfl, if_pos (by omega)]
    simp only [mixF]
    rw [List.getElem?_append_left (by rw [List.length_take, zipF_len h]; omega), List.getElem?_take, if_pos (by omega), hj]
  · rw [if_neg hi]
    simp only [mixF]
    by_cases hlt : i < k
    · rw [List.getElem?_append_left (by omega), List.getElem?_append_left (by rw [List.length_take, zipF_len h]; omega), List.getElem?_take, List.getElem?_take, if_pos hlt, if_pos (by omega)]
    · have hl1 : ((List.zipWith f xs ys).take (k + 1)).length = k + 1 := by rw [List.length_take, zipF_len h]; omega
      rw [List.getElem?_append_right (by omega), List.getElem?_append_right (by omega), hl, hl1, List.getElem?_drop, List.getElem?_drop]
      congr 1; omega
theorem mixF_keep (h : xs.length ≤ ys.length) (hk : k < xs.length) (he : f (xs.getD k Cell.zero) (ys.getD k Cell.zero) = xs.getD k Cell.zero) : mixF f xs ys k = mixF f xs ys (k + 1) := by
  rw [← mixF_next h hk, he, ← mixF_get (f := f) h hk, set_same (by rw [mixF_len h (by omega)]; exact hk)]
end

def mergeP (a b : Cell) : Cell := if a = b then a else Cell.zero
def mergeC (xs ys : List Cell) : List Cell := List.zipWith mergeP xs ys
def predStep (l : List Corr) (x : List Cell) (st : Option (List Cell)) (j : Nat) : Option (List Cell) := if fitC (cellsAt l j) x then some (mergeC (st.getD (cellsAt l j)) (cellsAt l j)) else st
def predTo (l : List Corr) (x : List Cell) (k : Nat) : Option (List Cell) := (List.range k).foldl (predStep l x) none
theorem predTo_succ (l : List Corr) (x : List Cell) (k : Nat) : predTo l x (k + 1) = predStep l x (predTo l x k) k := by
  simp only [predTo, List.range_succ, List.foldl_append, List.foldl_cons, List.foldl_nil]
theorem predTo_len {l : List Corr} {x : List Cell} {m : Nat} (hm : ∀ c ∈ l, c.cells.length = m) : ∀ k, k ≤ l.length → ∀ c, predTo l x k = some c → c.length = m
  | 0, _, c, h => by simp [predTo] at h
  | k + 1, hk, c, h => by
    have ih := predTo_len hm k (by omega) (x := x)
    have hc : (cellsAt l k).length = m := hm _ (getD_mem (by omega))
    rw [predTo_succ, predStep] at h
    split at h
    · injection h with h
      rw [← h, mergeC, zipF_len]
      · cases hp : predTo l x k with
        | none => exact hc
        | some d => exact ih d hp
      · cases hp : predTo l x k with
        | none => exact Nat.le_refl _
        | some d => rw [Option.getD_some, ih d hp]; omega
    · exact ih c h
def predBad (l : List Corr) (x : List Cell) : Bool := !x.all validC || (decide (0 < l.length) && !decide (headLen l = x.length))
def predE (l : List Corr) (x : List Cell) : Int := if checkC l 256 ≠ 0 then checkC l 256 else if predBad l x = true then 2 else if (predTo l x l.length).isSome = true then 0 else 5
def predO (l : List Corr) (x : List Cell) : List Cell := if predE l x = 0 then joinC x ((predTo l x l.length).getD []) else []

theorem predict_ok (l : List Corr) (x : List Cell) (hb : ∀ c ∈ l, c.cells.length * 16 ≤ 140737488355328) (hbx : x.length * 16 ≤ 140737488355328) : Ok Try.prog E 30 [.c (corrs l), .c (cells x)] (.tp [.fr 57 ((predO l x).map Cell.enc), nv (predE l x)]) := by
  refine ok_of_vc (L := []) (ts := [4, 5]) envOK mixed Try.func30 rfl (by kernel_rfl) rfl (by kernel_rfl) rfl fun hl => ?_
  have hg0 : decide ((0 : Int) < (l.length : Int)) = decide (0 < l.length) := lt_nat (a := 0)
  have h2 : ¬ (2 : Int) = 0 := by omega
  have h5 : ¬ (5 : Int) = 0 := by omega
  simp only [Try.f30, nv, len_ne', num_beq, hg0, VL, VB, BEq.rfl, V1, V2, V3, V4, V5, V6, V7, V8, V9, V10, VE, Nat.reduceBEq, Nat.reduceAdd, Nat.reduceSub, Nat.reduceMul, Nat.reduceLeDiff, Nat.reduceLT, Nat.reduceEqDiff, Int.reduceBEq, Int.reduceBNe, Int.reduceLT, Int.reduceLE, Int.reduceAdd, Int.reduceSub, Int.reduceMul]
  refine CallX.mk (check_ok l 256) rfl ?_
  simp only [nv, len_ne', num_beq, hg0, VL, VB, BEq.rfl, V1, V2, V3, V4, V5, V6, V7, V8, V9, V10, VE, Nat.reduceBEq, Nat.reduceAdd, Nat.reduceSub, Nat.reduceMul, Nat.reduceLeDiff, Nat.reduceLT, Nat.reduceEqDiff, Int.reduceBEq, Int.reduceBNe, Int.reduceLT, Int.reduceLE, Int.reduceAdd, Int.reduceSub, Int.reduceMul]
  refine guardB.mk (fun h => ?_) (fun h => ?_)
  · have h0 : ¬ checkC l 256 = 0 := by simpa using h
    have he : predE l x = checkC l 256 := by rw [predE, if_pos h0]
    simp only [predO, he, h0, if_false, Option.isSome_some, List.map_nil, len_ne', num_beq, hg0, VL, VB, BEq.rfl, V1, V2, V3, V4, V5, V6, V7, V8, V9, V10, VE, Nat.reduceBEq, Nat.reduceAdd, Nat.reduceSub, Nat.reduceMul, Nat.reduceLeDiff, Nat.reduceLT, Nat.reduceEqDiff, Int.reduceBEq, Int.reduceBNe, Int.reduceLT, Int.reduceLE, Int.reduceAdd, Int.reduceSub, Int.reduceMul]
  have h0 : checkC l 256 = 0 := by simpa using h
  have hn : l.length ≤ 256 := check_len (n := 256) h0
  have hm := list_lens (check_list (n := 256) h0)
  have hpe : predE l x = if predBad l x = true then 2 else if (predTo l x l.length).isSome = true then 0 else 5 := by rw [predE, if_neg (by simpa using h0)]
  simp only [len_ne', num_beq, hg0, VL, VB, BEq.rfl, V1, V2, V3, V4, V5, V6, V7, V8, V9, V10, VE, Nat.reduceBEq, Nat.reduceAdd, Nat.reduceSub, Nat.reduceMul, Nat.reduceLeDiff, Nat.reduceLT, Nat.reduceEqDiff, Int.reduceBEq, Int.reduceBNe, Int.reduceLT, Int.reduceLE, Int.reduceAdd, Int.reduceSub, Int.reduceMul]
  refine CallX.mk (cvalid_ok x) rfl ?_
  simp only [len_ne', num_beq, hg0, VL, VB, BEq.rfl, V1, V2, V3, V4, V5, V6, V7, V8, V9, V10, VE, Nat.reduceBEq, Nat.reduceAdd, Nat.reduceSub, Nat.reduceMul, Nat.reduceLeDiff, Nat.reduceLT, Nat.reduceEqDiff, Int.reduceBEq, Int.reduceBNe, Int.reduceLT, Int.reduceLE, Int.reduceAdd, Int.reduceSub, Int.reduceMul]
  refine guardB.mk (fun h => ?_) (fun h => ?_)
  · have hv : x.all validC = false := by simpa using h
    have he : predE l x = 2 := by rw [hpe, if_pos (by rw [predBad, hv]; rfl)]
    simp only [predO, he, h2, h, if_false, Option.isSome_some, List.map_nil, len_ne', num_beq, hg0, VL, VB, BEq.rfl, V1, V2, V3, V4, V5, V6, V7, V8, V9, V10, VE, Nat.reduceBEq, Nat.reduceAdd, Nat.reduceSub, Nat.reduceMul, Nat.reduceLeDiff, Nat.reduceLT, Nat.reduceEqDiff, Int.reduceBEq, Int.reduceBNe, Int.reduceLT, Int.reduceLE, Int.reduceAdd, Int.reduceSub, Int.reduceMul]
  have hv : x.all validC = true := by simpa using h
  simp only [h, len_ne', num_beq, hg0, VL, VB, BEq.rfl, V1, V2, V3, V4, V5, V6, V7, V8, V9, V10, VE, Nat.reduceBEq, Nat.reduceAdd, Nat.reduceSub, Nat.reduceMul, Nat.reduceLeDiff, Nat.reduceLT, Nat.reduceEqDiff, Int.reduceBEq, Int.reduceBNe, Int.reduceLT, Int.reduceLE, Int.reduceAdd, Int.reduceSub, Int.reduceMul]
  refine guardB.mk (fun h => ?_) (fun h => ?_)
  · have hl0 : 0 < l.length := by simpa using h
    obtain ⟨c0, hcd0⟩ : ∃ c, l.getD 0 Corr.zero = c := ⟨_, rfl⟩
    have hcl0 : headLen l = c0.cells.length := by rw [headLen, hcd0]
    have hz : (0 : Int).toNat = 0 := rfl
    simp only [h, getD_corr, hl0, hcd0, corr_def, hz, len_ne', num_beq, hg0, VL, VB, BEq.rfl, V1, V2, V3, V4, V5, V6, V7, V8, V9, V10, VE, Nat.reduceBEq, Nat.reduceAdd, Nat.reduceSub, Nat.reduceMul, Nat.reduceLeDiff, Nat.reduceLT, Nat.reduceEqDiff, Int.reduceBEq, Int.reduceBNe, Int.reduceLT, Int.reduceLE, Int.reduceAdd, Int.reduceSub, Int.reduceMul]
    refine guardB.mk (fun h => ?_) (fun h => ?_)
    · have hne : ¬ headLen l = x.length := by simp at h; omega
      have he : predE l x = 2 := by rw [hpe, if_pos (by rw [predBad, hv, decide_eq_true hl0, decide_eq_false hne]; rfl)]
      simp only [predO, he, h2, h, if_false, Option.isSome_some, List.map_nil, len_ne', num_beq, hg0, VL, VB, BEq.rfl, V1, V2, V3, V4, V5, V6, V7, V8, V9, V10, VE, Nat.reduceBEq, Nat.reduceAdd, Nat.reduceSub, Nat.reduceMul, Nat.reduceLeDiff, Nat.reduceLT, Nat.reduceEqDiff, Int.reduceBEq, Int.reduceBNe, Int.reduceLT, Int.reduceLE, Int.reduceAdd, Int.reduceSub, Int.reduceMul]
    have hxm : headLen l = x.length := by simp at h; omega
    have hpb : predBad l x = false := by rw [predBad, hv, decide_eq_true hxm]; simp
    rw [if_neg (by rw [hpb]; simp)] at hpe
    simp only [h, len_ne', num_beq, hg0, VL, VB, BEq.rfl, V1, V2, V3, V4, V5, V6, V7, V8, V9, V10, VE, Nat.reduceBEq, Nat.reduceAdd, Nat.reduceSub, Nat.reduceMul, Nat.reduceLeDiff, Nat.reduceLT, Nat.reduceEqDiff, Int.reduceBEq, Int.reduceBNe, Int.reduceLT, Int.reduceLE, Int.reduceAdd, Int.reduceSub, Int.reduceMul]
    refine LoopVC.mk (Y := Nat) (fun k => k ≤ l.length) (fun k => ⟨[(1, .c (cells x)), (7, .osl 1000 0), (8, .c (.sc (.bool (predTo l x k).isSome))), (36, .c (corrs l)), (37, .c (.sc (.int .i64 l.length))), (38, .c (.sc (.int .i64 k)))], [(1000, .arr 57 0 (((predTo l x k).getD []).map Cell.enc))]⟩) (fun k => l.length - k) ⟨0, Enter.mk [(7, (1000, 57))] [] [] ?_, by omega⟩ ?_
    · simp only [predTo, List.range_zero, List.foldl_nil, Option.isSome_none, Option.getD_none, List.map_nil, Option.isSome_some, len_ne', num_beq, hg0, VL, VB, BEq.rfl, V1, V2, V3, V4, V5, V6, V7, V8, V9, V10, VE, Nat.reduceBEq, Nat.reduceAdd, Nat.reduceSub, Nat.reduceMul, Nat.reduceLeDiff, Nat.reduceLT, Nat.reduceEqDiff, Int.reduceBEq, Int.reduceBNe, Int.reduceLT, Int.reduceLE, Int.reduceAdd, Int.reduceSub, Int.reduceMul]
      rfl
    intro k hk
    have hpl := predTo_len hm k hk (x := x)
    have hps := predTo_succ l x k
    rw [predStep] at hps
    generalize hst : predTo l x k = st at hpl hps ⊢
    simp only [lt_nat, len_ne', num_beq, hg0, VL, VB, BEq.rfl, V1, V2, V3, V4, V5, V6, V7, V8, V9, V10, VE, Nat.reduceBEq, Nat.reduceAdd, Nat.reduceSub, Nat.reduceMul, Nat.reduceLeDiff, Nat.reduceLT, Nat.reduceEqDiff, Int.reduceBEq, Int.reduceBNe, Int.reduceLT, Int.reduceLE, Int.reduceAdd, Int.reduceSub, Int.reduceMul]
    refine guardB.mk (fun h => ?_) (fun h => ?_) <;> simp only [h, len_ne', num_beq, hg0, VL, VB, BEq.rfl, V1, V2, V3, V4, V5, V6, V7, V8, V9, V10, VE, Nat.reduceBEq, Nat.reduceAdd, Nat.reduceSub, Nat.reduceMul, Nat.reduceLeDiff, Nat.reduceLT, Nat.reduceEqDiff, Int.reduceBEq, Int.reduceBNe, Int.reduceLT, Int.reduceLE, Int.reduceAdd, Int.reduceSub, Int.reduceMul]
    · have hk' : k < l.length := by simpa using h
      obtain ⟨c, hcd⟩ : ∃ c, l.getD k Corr.zero = c := ⟨_, rfl⟩
      have hcm : c ∈ l := by rw [← hcd]; exact getD_mem hk'
      have hcl := hm c hcm
      have hcb := hb c hcm
      have hci : cellsAt l k = c.cells := by rw [cellsAt, hcd]
      rw [hci] at hps
      have hw := wrap_nat (k := k) (by omega)
      simp only [getD_corr, hk', hcd, corr_def, hw, len_ne', num_beq, hg0, VL, VB, BEq.rfl, V1, V2, V3, V4, V5, V6, V7, V8, V9, V10, VE, Nat.reduceBEq, Nat.reduceAdd, Nat.reduceSub, Nat.reduceMul, Nat.reduceLeDiff, Nat.reduceLT, Nat.reduceEqDiff, Int.reduceBEq, Int.reduceBNe, Int.reduceLT, Int.reduceLE, Int.reduceAdd, Int.reduceSub, Int.reduceMul]
      refine ⟨Int.natCast_nonneg k, ?_⟩
      refine CallX.mk (fit_ok c.cells x (by omega)) rfl ?_
      simp only [getD_corr, hk', hcd, corr_def, hw, len_ne', num_beq, hg0, VL, VB, BEq.rfl, V1, V2, V3, V4, V5, V6, V7, V8, V9, V10, VE, Nat.reduceBEq, Nat.reduceAdd, Nat.reduceSub, Nat.reduceMul, Nat.reduceLeDiff, Nat.reduceLT, Nat.reduceEqDiff, Int.reduceBEq, Int.reduceBNe, Int.reduceLT, Int.reduceLE, Int.reduceAdd, Int.reduceSub, Int.reduceMul]
      refine guardB.mk (fun h3 => ?_) (fun h3 => ?_)
      · have hf : fitC c.cells x = false := by simpa using h3
        rw [if_neg (by rw [hf]; simp)] at hps
        refine ⟨k + 1, Enter.id ?_, by omega, by show l.length - (k + 1) < l.length - k; omega⟩
        simp only [hps, getD_corr, hk', hcd, corr_def, hw, len_ne', num_beq, hg0, VL, VB, BEq.rfl, V1, V2, V3, V4, V5, V6, V7, V8, V9, V10, VE, Nat.reduceBEq, Nat.reduceAdd, Nat.reduceSub, Nat.reduceMul, Nat.reduceLeDiff, Nat.reduceLT, Nat.reduceEqDiff, Int.reduceBEq, Int.reduceBNe, Int.reduceLT, Int.reduceLE, Int.reduceAdd, Int.reduceSub, Int.reduceMul]
      · have hf : fitC c.cells x = true := by simpa using h3
        rw [if_pos hf] at hps
        have hsl : (st.getD c.cells).length = c.cells.length := by
          cases hs : st with
          | none => rfl
          | some d => rw [Option.getD_some, hpl d hs]; omega
        simp only [getD_corr, hk', hcd, corr_def, hw, len_ne', num_beq, hg0, VL, VB, BEq.rfl, V1, V2, V3, V4, V5, V6, V7, V8, V9, V10, VE, Nat.reduceBEq, Nat.reduceAdd, Nat.reduceSub, Nat.reduceMul, Nat.reduceLeDiff, Nat.reduceLT, Nat.reduceEqDiff, Int.reduceBEq, Int.reduceBNe, Int.reduceLT, Int.reduceLE, Int.reduceAdd, Int.reduceSub, Int.reduceMul]
        refine guardB.mk (fun h4 => ?_) (fun h4 => ?_)
        · have hs : st = none := by
            cases st with
            | none => rfl
            | some d => simp at h4
          simp only [h4, getD_corr, hk', hcd, corr_def, hw, len_ne', num_beq, hg0, VL, VB, BEq.rfl, V1, V2, V3, V4, V5, V6, V7, V8, V9, V10, VE, Nat.reduceBEq, Nat.reduceAdd, Nat.reduceSub, Nat.reduceMul, Nat.reduceLeDiff, Nat.reduceLT, Nat.reduceEqDiff, Int.reduceBEq, Int.reduceBNe, Int.reduceLT, Int.reduceLE, Int.reduceAdd, Int.reduceSub, Int.reduceMul]
          refine ⟨⟨by omega, allLen_enc _⟩, ?_⟩
          refine LoopVC.mk (Y := Nat) (fun j => j ≤ c.cells.length) (fun j => ⟨[(1, .c (cells x)), (7, .osl 1000 0), (8, .c (.sc (.bool true))), (36, .c (corrs l)), (37, .c (.sc (.int .i64 l.length))), (38, .c (.sc (.int .i64 k))), (54, .c (cells c.cells)), (55, .c (.sc (.int .i64 c.cells.length))), (56, .c (.sc (.int .i64 j)))], [(1000, .arr 57 0 ((mixF mergeP (st.getD c.cells) c.cells j).map Cell.enc))]⟩) (fun j => c.cells.length - j) ⟨0, Enter.mk [] [] [(1000, 49)] ?_, by omega⟩ ?_
          · simp only [mixF_zero, hs, Option.getD_none, getD_corr, hk', hcd, corr_def, hw, len_ne', num_beq, hg0, VL, VB, BEq.rfl, V1, V2, V3, V4, V5, V6, V7, V8, V9, V10, VE, Nat.reduceBEq, Nat.reduceAdd, Nat.reduceSub, Nat.reduceMul, Nat.reduceLeDiff, Nat.reduceLT, Nat.reduceEqDiff, Int.reduceBEq, Int.reduceBNe, Int.reduceLT, Int.reduceLE, Int.reduceAdd, Int.reduceSub, Int.reduceMul]
            rfl
          intro j hj
          have hml := mixF_len (f := mergeP) (xs := st.getD c.cells) (ys := c.cells) (k := j) (by omega) (by omega)
          simp only [lt_nat, getD_corr, hk', hcd, corr_def, hw, len_ne', num_beq, hg0, VL, VB, BEq.rfl, V1, V2, V3, V4, V5, V6, V7, V8, V9, V10, VE, Nat.reduceBEq, Nat.reduceAdd, Nat.reduceSub, Nat.reduceMul, Nat.reduceLeDiff, Nat.reduceLT, Nat.reduceEqDiff, Int.reduceBEq, Int.reduceBNe, Int.reduceLT, Int.reduceLE, Int.reduceAdd, Int.reduceSub, Int.reduceMul]
          refine guardB.mk (fun h5 => ?_) (fun h5 => ?_) <;> simp only [h5, getD_corr, hk', hcd, corr_def, hw, len_ne', num_beq, hg0, VL, VB, BEq.rfl, V1, V2, V3, V4, V5, V6, V7, V8, V9, V10, VE, Nat.reduceBEq, Nat.reduceAdd, Nat.reduceSub, Nat.reduceMul, Nat.reduceLeDiff, Nat.reduceLT, Nat.reduceEqDiff, Int.reduceBEq, Int.reduceBNe, Int.reduceLT, Int.reduceLE, Int.reduceAdd, Int.reduceSub, Int.reduceMul]
          · have hj' : j < c.cells.length := by simpa using h5
            have hjx : j < (st.getD c.cells).length := by omega
            have hjm : j < (mixF mergeP (st.getD c.cells) c.cells j).length := by omega
            have hmg := mixF_get (f := mergeP) (xs := st.getD c.cells) (ys := c.cells) (by omega) hjx
            have hwj := wrap_nat (k := j) (by omega)
            obtain ⟨u, hu⟩ : ∃ u, (st.getD c.cells).getD j Cell.zero = u := ⟨_, rfl⟩
            obtain ⟨v, hv2⟩ : ∃ v, c.cells.getD j Cell.zero = v := ⟨_, rfl⟩
            have hmn := mixF_next (f := mergeP) (xs := st.getD c.cells) (ys := c.cells) (by omega) hjx
            rw [hu] at hmg
            rw [hu, hv2, mergeP] at hmn
            simp only [getD_enc, hj', hjm, hmg, hv2, enc_def, cell_beq, hwj, getD_corr, hk', hcd, corr_def, hw, len_ne', num_beq, hg0, VL, VB, BEq.rfl, V1, V2, V3, V4, V5, V6, V7, V8, V9, V10, VE, Nat.reduceBEq, Nat.reduceAdd, Nat.reduceSub, Nat.reduceMul, Nat.reduceLeDiff, Nat.reduceLT, Nat.reduceEqDiff, Int.reduceBEq, Int.reduceBNe, Int.reduceLT, Int.reduceLE, Int.reduceAdd, Int.reduceSub, Int.reduceMul]
            refine ⟨Int.natCast_nonneg j, Int.natCast_nonneg j, guardB.mk (fun h6 => ?_) (fun h6 => ?_)⟩ <;> simp only [h6, getD_enc, hj', hjm, hmg, hv2, enc_def, cell_beq, hwj, getD_corr, hk', hcd, corr_def, hw, len_ne', num_beq, hg0, VL, VB, BEq.rfl, V1, V2, V3, V4, V5, V6, V7, V8, V9, V10, VE, Nat.reduceBEq, Nat.reduceAdd, Nat.reduceSub, Nat.reduceMul, Nat.reduceLeDiff, Nat.reduceLT, Nat.reduceEqDiff, Int.reduceBEq, Int.reduceBNe, Int.reduceLT, Int.reduceLE, Int.reduceAdd, Int.reduceSub, Int.reduceMul]
            · rw [if_neg (by simpa using h6)] at hmn
              refine ⟨Int.natCast_nonneg j, j + 1, Enter.id ?_, by omega, by show c.cells.length - (j + 1) < c.cells.length - j; omega⟩
              simp only [← hmn, List.map_set, getD_enc, hj', hjm, hmg, hv2, enc_def, cell_beq, hwj, getD_corr, hk', hcd, corr_def, hw, len_ne', num_beq, hg0, VL, VB, BEq.rfl, V1, V2, V3, V4, V5, V6, V7, V8, V9, V10, VE, Nat.reduceBEq, Nat.reduceAdd, Nat.reduceSub, Nat.reduceMul, Nat.reduceLeDiff, Nat.reduceLT, Nat.reduceEqDiff, Int.reduceBEq, Int.reduceBNe, Int.reduceLT, Int.reduceLE, Int.reduceAdd, Int.reduceSub, Int.reduceMul]
              exact ⟨rfl, rfl⟩
            · have huv : u = v := by simpa using h6
              have hkp := mixF_keep (f := mergeP) (xs := st.getD c.cells) (ys := c.cells) (by omega) hjx (by rw [hu, hv2, mergeP, if_pos huv])
              refine ⟨j + 1, Enter.id ?_, by omega, by show c.cells.length - (j + 1) < c.cells.length - j; omega⟩
              simp only [← hkp, getD_enc, hj', hjm, hmg, hv2, enc_def, cell_beq, hwj, getD_corr, hk', hcd, corr_def, hw, len_ne', num_beq, hg0, VL, VB, BEq.rfl, V1, V2, V3, V4, V5, V6, V7, V8, V9, V10, VE, Nat.reduceBEq, Nat.reduceAdd, Nat.reduceSub, Nat.reduceMul, Nat.reduceLeDiff, Nat.reduceLT, Nat.reduceEqDiff, Int.reduceBEq, Int.reduceBNe, Int.reduceLT, Int.reduceLE, Int.reduceAdd, Int.reduceSub, Int.reduceMul]
          · have hje : mixF mergeP (st.getD c.cells) c.cells j = mergeC (st.getD c.cells) c.cells := mixF_all (by omega) (by simp at h5; omega)
            refine ⟨k + 1, Enter.id ?_, by omega, by show l.length - (k + 1) < l.length - k; omega⟩
            simp only [hps, hje, Option.isSome_some, getD_corr, hk', hcd, corr_def, hw, len_ne', num_beq, hg0, VL, VB, BEq.rfl, V1, V2, V3, V4, V5, V6, V7, V8, V9, V10, VE, Nat.reduceBEq, Nat.reduceAdd, Nat.reduceSub, Nat.reduceMul, Nat.reduceLeDiff, Nat.reduceLT, Nat.reduceEqDiff, Int.reduceBEq, Int.reduceBNe, Int.reduceLT, Int.reduceLE, Int.reduceAdd, Int.reduceSub, Int.reduceMul]
        · obtain ⟨d, hs⟩ : ∃ d, st = some d := by
            cases st with
            | none => simp at h4
            | some d => exact ⟨d, rfl⟩
          simp only [h4, getD_corr, hk', hcd, corr_def, hw, len_ne', num_beq, hg0, VL, VB, BEq.rfl, V1, V2, V3, V4, V5, V6, V7, V8, V9, V10, VE, Nat.reduceBEq, Nat.reduceAdd, Nat.reduceSub, Nat.reduceMul, Nat.reduceLeDiff, Nat.reduceLT, Nat.reduceEqDiff, Int.reduceBEq, Int.reduceBNe, Int.reduceLT, Int.reduceLE, Int.reduceAdd, Int.reduceSub, Int.reduceMul]
          refine LoopVC.mk (Y := Nat) (fun j => j ≤ c.cells.length) (fun j => ⟨[(1, .c (cells x)), (7, .osl 1000 0), (8, .c (.sc (.bool true))), (36, .c (corrs l)), (37, .c (.sc (.int .i64 l.length))), (38, .c (.sc (.int .i64 k))), (54, .c (cells c.cells)), (55, .c (.sc (.int .i64 c.cells.length))), (56, .c (.sc (.int .i64 j)))], [(1000, .arr 57 0 ((mixF mergeP (st.getD c.cells) c.cells j).map Cell.enc))]⟩) (fun j => c.cells.length - j) ⟨0, Enter.id ?_, by omega⟩ ?_
          · simp only [mixF_zero, hs, Option.getD_some, Option.isSome_some, getD_corr, hk', hcd, corr_def, hw, len_ne', num_beq, hg0, VL, VB, BEq.rfl, V1, V2, V3, V4, V5, V6, V7, V8, V9, V10, VE, Nat.reduceBEq, Nat.reduceAdd, Nat.reduceSub, Nat.reduceMul, Nat.reduceLeDiff, Nat.reduceLT, Nat.reduceEqDiff, Int.reduceBEq, Int.reduceBNe, Int.reduceLT, Int.reduceLE, Int.reduceAdd, Int.reduceSub, Int.reduceMul]
            rfl
          intro j hj
          have hml := mixF_len (f := mergeP) (xs := st.getD c.cells) (ys := c.cells) (k := j) (by omega) (by omega)
          simp only [lt_nat, getD_corr, hk', hcd, corr_def, hw, len_ne', num_beq, hg0, VL, VB, BEq.rfl, V1, V2, V3, V4, V5, V6, V7, V8, V9, V10, VE, Nat.reduceBEq, Nat.reduceAdd, Nat.reduceSub, Nat.reduceMul, Nat.reduceLeDiff, Nat.reduceLT, Nat.reduceEqDiff, Int.reduceBEq, Int.reduceBNe, Int.reduceLT, Int.reduceLE, Int.reduceAdd, Int.reduceSub, Int.reduceMul]
          refine guardB.mk (fun h5 => ?_) (fun h5 => ?_) <;> simp only [h5, getD_corr, hk', hcd, corr_def, hw, len_ne', num_beq, hg0, VL, VB, BEq.rfl, V1, V2, V3, V4, V5, V6, V7, V8, V9, V10, VE, Nat.reduceBEq, Nat.reduceAdd, Nat.reduceSub, Nat.reduceMul, Nat.reduceLeDiff, Nat.reduceLT, Nat.reduceEqDiff, Int.reduceBEq, Int.reduceBNe, Int.reduceLT, Int.reduceLE, Int.reduceAdd, Int.reduceSub, Int.reduceMul]
          · have hj' : j < c.cells.length := by simpa using h5
            have hjx : j < (st.getD c.cells).length := by omega
            have hjm : j < (mixF mergeP (st.getD c.cells) c.cells j).length := by omega
            have hmg := mixF_get (f := mergeP) (xs := st.getD c.cells) (ys := c.cells) (by omega) hjx
            have hwj := wrap_nat (k := j) (by omega)
            obtain ⟨u, hu⟩ : ∃ u, (st.getD c.cells).getD j Cell.zero = u := ⟨_, rfl⟩
            obtain ⟨v, hv2⟩ : ∃ v, c.cells.getD j Cell.zero = v := ⟨_, rfl⟩
            have hmn := mixF_next (f := mergeP) (xs := st.getD c.cells) (ys := c.cells) (by omega) hjx
            rw [hu] at hmg
            rw [hu, hv2, mergeP] at hmn
            simp only [getD_enc, hj', hjm, hmg, hv2, enc_def, cell_beq, hwj, getD_corr, hk', hcd, corr_def, hw, len_ne', num_beq, hg0, VL, VB, BEq.rfl, V1, V2, V3, V4, V5, V6, V7, V8, V9, V10, VE, Nat.reduceBEq, Nat.reduceAdd, Nat.reduceSub, Nat.reduceMul, Nat.reduceLeDiff, Nat.reduceLT, Nat.reduceEqDiff, Int.reduceBEq, Int.reduceBNe, Int.reduceLT, Int.reduceLE, Int.reduceAdd, Int.reduceSub, Int.reduceMul]
            refine ⟨Int.natCast_nonneg j, Int.natCast_nonneg j, guardB.mk (fun h6 => ?_) (fun h6 => ?_)⟩ <;> simp only [h6, getD_enc, hj', hjm, hmg, hv2, enc_def, cell_beq, hwj, getD_corr, hk', hcd, corr_def, hw, len_ne', num_beq, hg0, VL, VB, BEq.rfl, V1, V2, V3, V4, V5, V6, V7, V8, V9, V10, VE, Nat.reduceBEq, Nat.reduceAdd, Nat.reduceSub, Nat.reduceMul, Nat.reduceLeDiff, Nat.reduceLT, Nat.reduceEqDiff, Int.reduceBEq, Int.reduceBNe, Int.reduceLT, Int.reduceLE, Int.reduceAdd, Int.reduceSub, Int.reduceMul]
            · rw [if_neg (by simpa using h6)] at hmn
              refine ⟨Int.natCast_nonneg j, j + 1, Enter.id ?_, by omega, by show c.cells.length - (j + 1) < c.cells.length - j; omega⟩
              simp only [← hmn, List.map_set, getD_enc, hj', hjm, hmg, hv2, enc_def, cell_beq, hwj, getD_corr, hk', hcd, corr_def, hw, len_ne', num_beq, hg0, VL, VB, BEq.rfl, V1, V2, V3, V4, V5, V6, V7, V8, V9, V10, VE, Nat.reduceBEq, Nat.reduceAdd, Nat.reduceSub, Nat.reduceMul, Nat.reduceLeDiff, Nat.reduceLT, Nat.reduceEqDiff, Int.reduceBEq, Int.reduceBNe, Int.reduceLT, Int.reduceLE, Int.reduceAdd, Int.reduceSub, Int.reduceMul]
              exact ⟨rfl, rfl⟩
            · have huv : u = v := by simpa using h6
              have hkp := mixF_keep (f := mergeP) (xs := st.getD c.cells) (ys := c.cells) (by omega) hjx (by rw [hu, hv2, mergeP, if_pos huv])
              refine ⟨j + 1, Enter.id ?_, by omega, by show c.cells.length - (j + 1) < c.cells.length - j; omega⟩
              simp only [← hkp, getD_enc, hj', hjm, hmg, hv2, enc_def, cell_beq, hwj, getD_corr, hk', hcd, corr_def, hw, len_ne', num_beq, hg0, VL, VB, BEq.rfl, V1, V2, V3, V4, V5, V6, V7, V8, V9, V10, VE, Nat.reduceBEq, Nat.reduceAdd, Nat.reduceSub, Nat.reduceMul, Nat.reduceLeDiff, Nat.reduceLT, Nat.reduceEqDiff, Int.reduceBEq, Int.reduceBNe, Int.reduceLT, Int.reduceLE, Int.reduceAdd, Int.reduceSub, Int.reduceMul]
          · have hje : mixF mergeP (st.getD c.cells) c.cells j = mergeC (st.getD c.cells) c.cells := mixF_all (by omega) (by simp at h5; omega)
            refine ⟨k + 1, Enter.id ?_, by omega, by show l.length - (k + 1) < l.length - k; omega⟩
            simp only [hps, hje, Option.isSome_some, getD_corr, hk', hcd, corr_def, hw, len_ne', num_beq, hg0, VL, VB, BEq.rfl, V1, V2, V3, V4, V5, V6, V7, V8, V9, V10, VE, Nat.reduceBEq, Nat.reduceAdd, Nat.reduceSub, Nat.reduceMul, Nat.reduceLeDiff, Nat.reduceLT, Nat.reduceEqDiff, Int.reduceBEq, Int.reduceBNe, Int.reduceLT, Int.reduceLE, Int.reduceAdd, Int.reduceSub, Int.reduceMul]
    · have hke : k = l.length := by
        have : ¬ k < l.length := by simpa using h
        omega
      rw [hke] at hst
      simp only [hst] at hpe
      refine guardB.mk (fun h4 => ?_) (fun h4 => ?_)
      · have hs : st.isSome = false := by simpa using h4
        have he : predE l x = 5 := by rw [hpe, hs]; rfl
        simp only [predO, he, h5, if_false, Option.isSome_some, List.map_nil, len_ne', num_beq, hg0, VL, VB, BEq.rfl, V1, V2, V3, V4, V5, V6, V7, V8, V9, V10, VE, Nat.reduceBEq, Nat.reduceAdd, Nat.reduceSub, Nat.reduceMul, Nat.reduceLeDiff, Nat.reduceLT, Nat.reduceEqDiff, Int.reduceBEq, Int.reduceBNe, Int.reduceLT, Int.reduceLE, Int.reduceAdd, Int.reduceSub, Int.reduceMul]
      · obtain ⟨d, hs⟩ : ∃ d, st = some d := by
          cases st with
          | none => simp at h4
          | some d => exact ⟨d, rfl⟩
        have he : predE l x = 0 := by rw [hpe, hs]; rfl
        have ho : predO l x = joinC x d := by rw [predO, if_pos he, hst, hs]; rfl
        have hdl := hpl d hs
        simp only [hs, Option.getD_some, len_ne', num_beq, hg0, VL, VB, BEq.rfl, V1, V2, V3, V4, V5, V6, V7, V8, V9, V10, VE, Nat.reduceBEq, Nat.reduceAdd, Nat.reduceSub, Nat.reduceMul, Nat.reduceLeDiff, Nat.reduceLT, Nat.reduceEqDiff, Int.reduceBEq, Int.reduceBNe, Int.reduceLT, Int.reduceLE, Int.reduceAdd, Int.reduceSub, Int.reduceMul]
        refine CallX.mk (join_ok x d (by omega) hbx) rfl ?_
        simp only [ho, he, len_ne', num_beq, hg0, VL, VB, BEq.rfl, V1, V2, V3, V4, V5, V6, V7, V8, V9, V10, VE, Nat.reduceBEq, Nat.reduceAdd, Nat.reduceSub, Nat.reduceMul, Nat.reduceLeDiff, Nat.reduceLT, Nat.reduceEqDiff, Int.reduceBEq, Int.reduceBNe, Int.reduceLT, Int.reduceLE, Int.reduceAdd, Int.reduceSub, Int.reduceMul]
  · have hl0 : l = [] := by
      have : ¬ 0 < l.length := by simpa using h
      exact List.length_eq_zero_iff.1 (by omega)
    subst hl0
    have hpb : predBad [] x = false := by rw [predBad, hv]; rfl
    have he : predE [] x = 5 := by rw [hpe, if_neg (by rw [hpb]; simp)]; rfl
    simp only [h, len_ne', num_beq, hg0, VL, VB, BEq.rfl, V1, V2, V3, V4, V5, V6, V7, V8, V9, V10, VE, Nat.reduceBEq, Nat.reduceAdd, Nat.reduceSub, Nat.reduceMul, Nat.reduceLeDiff, Nat.reduceLT, Nat.reduceEqDiff, Int.reduceBEq, Int.reduceBNe, Int.reduceLT, Int.reduceLE, Int.reduceAdd, Int.reduceSub, Int.reduceMul]
    refine LoopVC.mk (Y := Unit) (fun _ => True) (fun _ => ⟨[(7, .c (.sc (.slice none 0 0))), (8, .c (.sc (.bool false))), (37, .c (.sc (.int .i64 0))), (38, .c (.sc (.int .i64 0)))], []⟩) (fun _ => 0) ⟨(), Enter.id ?_, trivial⟩ ?_
    · simp only [true_or, len_ne', num_beq, hg0, VL, VB, BEq.rfl, V1, V2, V3, V4, V5, V6, V7, V8, V9, V10, VE, Nat.reduceBEq, Nat.reduceAdd, Nat.reduceSub, Nat.reduceMul, Nat.reduceLeDiff, Nat.reduceLT, Nat.reduceEqDiff, Int.reduceBEq, Int.reduceBNe, Int.reduceLT, Int.reduceLE, Int.reduceAdd, Int.reduceSub, Int.reduceMul]
      rfl
    · rintro _ _
      simp only [predO, he, h5, if_false, Option.isSome_some, List.map_nil, len_ne', num_beq, hg0, VL, VB, BEq.rfl, V1, V2, V3, V4, V5, V6, V7, V8, V9, V10, VE, Nat.reduceBEq, Nat.reduceAdd, Nat.reduceSub, Nat.reduceMul, Nat.reduceLeDiff, Nat.reduceLT, Nat.reduceEqDiff, Int.reduceBEq, Int.reduceBNe, Int.reduceLT, Int.reduceLE, Int.reduceAdd, Int.reduceSub, Int.reduceMul]

end Go.Cp
end

section
set_option linter.unusedVariables false
set_option linter.unusedSimpArgs false
set_option maxHeartbeats 8000000
set_option maxRecDepth 10000
namespace Go.Cp
open Go Go.Proofs Go.Vx

def exL : List Corr := rowsC [⟨#[112, 63, 63]⟩, ⟨#[63, 98, 63]⟩, ⟨#[112, 112, 63]⟩, ⟨#[63, 98, 98]⟩]
def exP : List Corr := rowsC [⟨#[112, 98, 45]⟩, ⟨#[112, 98, 112]⟩, ⟨#[98, 112, 45]⟩]
theorem ex1 : fitC (rowC ⟨#[112, 63, 98]⟩) (rowC ⟨#[112, 112, 98]⟩) = true := by kernel_rfl
theorem ex1a : okTwo (rowC ⟨#[112, 63, 98]⟩) (rowC ⟨#[112, 112, 98]⟩) = true := by kernel_rfl
theorem ex2 : (okTwo (rowC ⟨#[112, 63, 63]⟩) (rowC ⟨#[63, 45, 63]⟩) && fitC (rowC ⟨#[112, 63, 63]⟩) (rowC ⟨#[63, 45, 63]⟩)) = true := by kernel_rfl
theorem ex2a : joinE (okTwo (rowC ⟨#[112, 63, 63]⟩) (rowC ⟨#[63, 45, 63]⟩)) (fitC (rowC ⟨#[112, 63, 63]⟩) (rowC ⟨#[63, 45, 63]⟩)) = 0 := by kernel_rfl
theorem ex2b : joinC (rowC ⟨#[112, 63, 63]⟩) (rowC ⟨#[63, 45, 63]⟩) = rowC ⟨#[112, 45, 63]⟩ := by kernel_rfl
theorem ex3 : checkC exL 256 = 0 := by kernel_rfl
theorem ex3a : checkC exL 8 = 0 := by kernel_rfl
theorem ex4 : checkC ((exL.take 3).drop 1) 256 = 0 := by kernel_rfl
theorem ex4a : confs fitC ((exL.take 3).drop 1) ((exL.take 3).drop 1).length = [(0, 1)] := by kernel_rfl
theorem ex5 : (greedyAt exL 4).1 = [0, 0, 2, 0] := by kernel_rfl
theorem ex6 : (lblC exL).fd = [0, 0, 2, 0] := by kernel_rfl
theorem ex6a : (lblC exL).be = 2 := by kernel_rfl
theorem ex7 : patE exL [0, 0, 2, 0] = 0 := by kernel_rfl
theorem ex7a : patO exL [0, 0, 2, 0] = [⟨rowC ⟨#[112, 98, 98]⟩, 3⟩, ⟨rowC ⟨#[112, 112, 63]⟩, 1⟩] := by kernel_rfl
theorem ex8 : predE exP (rowC ⟨#[112, 63, 63]⟩) = 0 := by kernel_rfl
theorem ex8a : predO exP (rowC ⟨#[112, 63, 63]⟩) = rowC ⟨#[112, 98, 63]⟩ := by kernel_rfl
theorem t3 : (3 : Int).toNat = 3 := rfl
theorem t1 : (1 : Int).toNat = 1 := rfl
theorem c1 : ((1 : Nat) : Int) = 1 := rfl
theorem c2 : ((2 : Nat) : Int) = 2 := rfl
theorem t0 : (0 : Int).toNat = 0 := rfl
theorem ex9 : exL.length = 4 := by kernel_rfl
theorem bounded {l : List Corr} (h : l.all (fun c => decide (c.cells.length * 16 ≤ 140737488355328)) = true) : ∀ c ∈ l, c.cells.length * 16 ≤ 140737488355328 := fun c hc => by
  have := List.all_eq_true.1 h c hc
  simpa using this
theorem exLb : ∀ c ∈ exL, c.cells.length * 16 ≤ 140737488355328 := bounded (by kernel_rfl)
theorem exPb : ∀ c ∈ exP, c.cells.length * 16 ≤ 140737488355328 := bounded (by kernel_rfl)

theorem allLen_corrs (l : List Corr) : AllLen 2 (l.map Corr.enc) := fun y hy => by
  obtain ⟨c, _, rfl⟩ := List.mem_map.1 hy
  rfl

theorem works_ok : Ok Try.prog E 12 [] (bv true) := by
  refine ok_of_vc (L := [(9, [(59, 62), (60, 62), (61, 62)])]) (ts := [0]) envOK mixed Try.func12 rfl (by kernel_rfl) rfl (by kernel_rfl) rfl fun hl => ?_
  simp only [Try.f12, bv, nv, c1, c2, List.append_eq, List.getD_cons_zero, List.getD_cons_succ, t0, t1, t3, ex9, ← List.map_take, ← List.map_drop, List.all_cons, List.all_nil, Bool.cond_self, scD, VL, VB, BEq.rfl, V1, V2, V3, V4, V5, V6, V7, V8, V9, V10, VE, Nat.reduceBEq, Nat.reduceAdd, Nat.reduceSub, Nat.reduceMul, Nat.reduceLeDiff, Nat.reduceLT, Nat.reduceEqDiff, Int.reduceBEq, Int.reduceBNe, Int.reduceLT, Int.reduceLE, Int.reduceAdd, Int.reduceSub, Int.reduceMul]
  refine CallX.mk (Ok.val (rows_ok [⟨#[112, 63, 63]⟩, ⟨#[63, 98, 63]⟩, ⟨#[112, 112, 63]⟩, ⟨#[63, 98, 98]⟩] (by decide) (by decide))) rfl ?_
  rw [show rowsC [⟨#[112, 63, 63]⟩, ⟨#[63, 98, 63]⟩, ⟨#[112, 112, 63]⟩, ⟨#[63, 98, 98]⟩] = exL from rfl]
  simp only [bv, nv, c1, c2, List.append_eq, List.getD_cons_zero, List.getD_cons_succ, t0, t1, t3, ex9, ← List.map_take, ← List.map_drop, List.all_cons, List.all_nil, Bool.cond_self, scD, VL, VB, BEq.rfl, V1, V2, V3, V4, V5, V6, V7, V8, V9, V10, VE, Nat.reduceBEq, Nat.reduceAdd, Nat.reduceSub, Nat.reduceMul, Nat.reduceLeDiff, Nat.reduceLT, Nat.reduceEqDiff, Int.reduceBEq, Int.reduceBNe, Int.reduceLT, Int.reduceLE, Int.reduceAdd, Int.reduceSub, Int.reduceMul]
  refine CallX.mk (Ok.val (row_ok ⟨#[112, 63, 98]⟩ (by decide))) rfl ?_
  simp only [bv, nv, c1, c2, List.append_eq, List.getD_cons_zero, List.getD_cons_succ, t0, t1, t3, ex9, ← List.map_take, ← List.map_drop, List.all_cons, List.all_nil, Bool.cond_self, scD, VL, VB, BEq.rfl, V1, V2, V3, V4, V5, V6, V7, V8, V9, V10, VE, Nat.reduceBEq, Nat.reduceAdd, Nat.reduceSub, Nat.reduceMul, Nat.reduceLeDiff, Nat.reduceLT, Nat.reduceEqDiff, Int.reduceBEq, Int.reduceBNe, Int.reduceLT, Int.reduceLE, Int.reduceAdd, Int.reduceSub, Int.reduceMul]
  refine CallX.mk (Ok.val (row_ok ⟨#[112, 112, 98]⟩ (by decide))) rfl ?_
  simp only [bv, nv, c1, c2, List.append_eq, List.getD_cons_zero, List.getD_cons_succ, t0, t1, t3, ex9, ← List.map_take, ← List.map_drop, List.all_cons, List.all_nil, Bool.cond_self, scD, VL, VB, BEq.rfl, V1, V2, V3, V4, V5, V6, V7, V8, V9, V10, VE, Nat.reduceBEq, Nat.reduceAdd, Nat.reduceSub, Nat.reduceMul, Nat.reduceLeDiff, Nat.reduceLT, Nat.reduceEqDiff, Int.reduceBEq, Int.reduceBNe, Int.reduceLT, Int.reduceLE, Int.reduceAdd, Int.reduceSub, Int.reduceMul]
  refine CallX.mk (compatible_ok _ _) rfl ?_
  simp only [ex1, ex1a, if_true, bv, nv, c1, c2, List.append_eq, List.getD_cons_zero, List.getD_cons_succ, t0, t1, t3, ex9, ← List.map_take, ← List.map_drop, List.all_cons, List.all_nil, Bool.cond_self, scD, VL, VB, BEq.rfl, V1, V2, V3, V4, V5, V6, V7, V8, V9, V10, VE, Nat.reduceBEq, Nat.reduceAdd, Nat.reduceSub, Nat.reduceMul, Nat.reduceLeDiff, Nat.reduceLT, Nat.reduceEqDiff, Int.reduceBEq, Int.reduceBNe, Int.reduceLT, Int.reduceLE, Int.reduceAdd, Int.reduceSub, Int.reduceMul]
  refine CallX.mk (Ok.val (row_ok ⟨#[112, 63, 63]⟩ (by decide))) rfl ?_
  simp only [bv, nv, c1, c2, List.append_eq, List.getD_cons_zero, List.getD_cons_succ, t0, t1, t3, ex9, ← List.map_take, ← List.map_drop, List.all_cons, List.all_nil, Bool.cond_self, scD, VL, VB, BEq.rfl, V1, V2, V3, V4, V5, V6, V7, V8, V9, V10, VE, Nat.reduceBEq, Nat.reduceAdd, Nat.reduceSub, Nat.reduceMul, Nat.reduceLeDiff, Nat.reduceLT, Nat.reduceEqDiff, Int.reduceBEq, Int.reduceBNe, Int.reduceLT, Int.reduceLE, Int.reduceAdd, Int.reduceSub, Int.reduceMul]
  refine CallX.mk (Ok.val (row_ok ⟨#[63, 45, 63]⟩ (by decide))) rfl ?_
  simp only [bv, nv, c1, c2, List.append_eq, List.getD_cons_zero, List.getD_cons_succ, t0, t1, t3, ex9, ← List.map_take, ← List.map_drop, List.all_cons, List.all_nil, Bool.cond_self, scD, VL, VB, BEq.rfl, V1, V2, V3, V4, V5, V6, V7, V8, V9, V10, VE, Nat.reduceBEq, Nat.reduceAdd, Nat.reduceSub, Nat.reduceMul, Nat.reduceLeDiff, Nat.reduceLT, Nat.reduceEqDiff, Int.reduceBEq, Int.reduceBNe, Int.reduceLT, Int.reduceLE, Int.reduceAdd, Int.reduceSub, Int.reduceMul]
  refine CallX.mk (Ok.vals (Join_ok _ _ (by decide))) rfl ?_
  simp only [ex2, ex2a, ex2b, valA, if_true, bv, nv, c1, c2, List.append_eq, List.getD_cons_zero, List.getD_cons_succ, t0, t1, t3, ex9, ← List.map_take, ← List.map_drop, List.all_cons, List.all_nil, Bool.cond_self, scD, VL, VB, BEq.rfl, V1, V2, V3, V4, V5, V6, V7, V8, V9, V10, VE, Nat.reduceBEq, Nat.reduceAdd, Nat.reduceSub, Nat.reduceMul, Nat.reduceLeDiff, Nat.reduceLT, Nat.reduceEqDiff, Int.reduceBEq, Int.reduceBNe, Int.reduceLT, Int.reduceLE, Int.reduceAdd, Int.reduceSub, Int.reduceMul]
  refine ⟨⟨by omega, allLen_corrs _⟩, ?_⟩
  refine CallX.mk (conflicts_ok _) rfl ?_
  simp only [ex4, ex4a, if_true, bv, nv, c1, c2, List.append_eq, List.getD_cons_zero, List.getD_cons_succ, t0, t1, t3, ex9, ← List.map_take, ← List.map_drop, List.all_cons, List.all_nil, Bool.cond_self, scD, VL, VB, BEq.rfl, V1, V2, V3, V4, V5, V6, V7, V8, V9, V10, VE, Nat.reduceBEq, Nat.reduceAdd, Nat.reduceSub, Nat.reduceMul, Nat.reduceLeDiff, Nat.reduceLT, Nat.reduceEqDiff, Int.reduceBEq, Int.reduceBNe, Int.reduceLT, Int.reduceLE, Int.reduceAdd, Int.reduceSub, Int.reduceMul]
  refine CallX.mk (Ok.vals (greedy_ok exL exLb)) rfl ?_
  simp only [ex3, ex5, valA, if_true, bv, nv, c1, c2, List.append_eq, List.getD_cons_zero, List.getD_cons_succ, t0, t1, t3, ex9, ← List.map_take, ← List.map_drop, List.all_cons, List.all_nil, Bool.cond_self, scD, VL, VB, BEq.rfl, V1, V2, V3, V4, V5, V6, V7, V8, V9, V10, VE, Nat.reduceBEq, Nat.reduceAdd, Nat.reduceSub, Nat.reduceMul, Nat.reduceLeDiff, Nat.reduceLT, Nat.reduceEqDiff, Int.reduceBEq, Int.reduceBNe, Int.reduceLT, Int.reduceLE, Int.reduceAdd, Int.reduceSub, Int.reduceMul]
  refine CallX.mk (fewest_ok exL exLb) rfl ?_
  simp only [ex3a, ex6, ex6a, if_true, bv, nv, c1, c2, List.append_eq, List.getD_cons_zero, List.getD_cons_succ, t0, t1, t3, ex9, ← List.map_take, ← List.map_drop, List.all_cons, List.all_nil, Bool.cond_self, scD, VL, VB, BEq.rfl, V1, V2, V3, V4, V5, V6, V7, V8, V9, V10, VE, Nat.reduceBEq, Nat.reduceAdd, Nat.reduceSub, Nat.reduceMul, Nat.reduceLeDiff, Nat.reduceLT, Nat.reduceEqDiff, Int.reduceBEq, Int.reduceBNe, Int.reduceLT, Int.reduceLE, Int.reduceAdd, Int.reduceSub, Int.reduceMul]
  refine CallX.mk (Ok.vals (patterns_ok exL [0, 0, 2, 0] exLb)) rfl ?_
  simp only [ex7, ex7a, valA, bv, nv, c1, c2, List.append_eq, List.getD_cons_zero, List.getD_cons_succ, t0, t1, t3, ex9, ← List.map_take, ← List.map_drop, List.all_cons, List.all_nil, Bool.cond_self, scD, VL, VB, BEq.rfl, V1, V2, V3, V4, V5, V6, V7, V8, V9, V10, VE, Nat.reduceBEq, Nat.reduceAdd, Nat.reduceSub, Nat.reduceMul, Nat.reduceLeDiff, Nat.reduceLT, Nat.reduceEqDiff, Int.reduceBEq, Int.reduceBNe, Int.reduceLT, Int.reduceLE, Int.reduceAdd, Int.reduceSub, Int.reduceMul]
  refine CallX.mk (Ok.val (rows_ok [⟨#[112, 98, 45]⟩, ⟨#[112, 98, 112]⟩, ⟨#[98, 112, 45]⟩] (by decide) (by decide))) rfl ?_
  rw [show rowsC [⟨#[112, 98, 45]⟩, ⟨#[112, 98, 112]⟩, ⟨#[98, 112, 45]⟩] = exP from rfl]
  simp only [bv, nv, c1, c2, List.append_eq, List.getD_cons_zero, List.getD_cons_succ, t0, t1, t3, ex9, ← List.map_take, ← List.map_drop, List.all_cons, List.all_nil, Bool.cond_self, scD, VL, VB, BEq.rfl, V1, V2, V3, V4, V5, V6, V7, V8, V9, V10, VE, Nat.reduceBEq, Nat.reduceAdd, Nat.reduceSub, Nat.reduceMul, Nat.reduceLeDiff, Nat.reduceLT, Nat.reduceEqDiff, Int.reduceBEq, Int.reduceBNe, Int.reduceLT, Int.reduceLE, Int.reduceAdd, Int.reduceSub, Int.reduceMul]
  refine CallX.mk (Ok.val (row_ok ⟨#[112, 63, 63]⟩ (by decide))) rfl ?_
  simp only [bv, nv, c1, c2, List.append_eq, List.getD_cons_zero, List.getD_cons_succ, t0, t1, t3, ex9, ← List.map_take, ← List.map_drop, List.all_cons, List.all_nil, Bool.cond_self, scD, VL, VB, BEq.rfl, V1, V2, V3, V4, V5, V6, V7, V8, V9, V10, VE, Nat.reduceBEq, Nat.reduceAdd, Nat.reduceSub, Nat.reduceMul, Nat.reduceLeDiff, Nat.reduceLT, Nat.reduceEqDiff, Int.reduceBEq, Int.reduceBNe, Int.reduceLT, Int.reduceLE, Int.reduceAdd, Int.reduceSub, Int.reduceMul]
  refine CallX.mk (Ok.vals (predict_ok exP _ exPb (by decide))) rfl ?_
  simp only [ex8, ex8a, valA, bv, nv, c1, c2, List.append_eq, List.getD_cons_zero, List.getD_cons_succ, t0, t1, t3, ex9, ← List.map_take, ← List.map_drop, List.all_cons, List.all_nil, Bool.cond_self, scD, VL, VB, BEq.rfl, V1, V2, V3, V4, V5, V6, V7, V8, V9, V10, VE, Nat.reduceBEq, Nat.reduceAdd, Nat.reduceSub, Nat.reduceMul, Nat.reduceLeDiff, Nat.reduceLT, Nat.reduceEqDiff, Int.reduceBEq, Int.reduceBNe, Int.reduceLT, Int.reduceLE, Int.reduceAdd, Int.reduceSub, Int.reduceMul]
  refine CallX.mk (Ok.val (row_ok ⟨#[112, 45, 63]⟩ (by decide))) rfl ?_
  simp only [bv, nv, c1, c2, List.append_eq, List.getD_cons_zero, List.getD_cons_succ, t0, t1, t3, ex9, ← List.map_take, ← List.map_drop, List.all_cons, List.all_nil, Bool.cond_self, scD, VL, VB, BEq.rfl, V1, V2, V3, V4, V5, V6, V7, V8, V9, V10, VE, Nat.reduceBEq, Nat.reduceAdd, Nat.reduceSub, Nat.reduceMul, Nat.reduceLeDiff, Nat.reduceLT, Nat.reduceEqDiff, Int.reduceBEq, Int.reduceBNe, Int.reduceLT, Int.reduceLE, Int.reduceAdd, Int.reduceSub, Int.reduceMul]
  refine CallX.mk (same_ok _ _) rfl ?_
  simp only [bv, nv, c1, c2, List.append_eq, List.getD_cons_zero, List.getD_cons_succ, t0, t1, t3, ex9, ← List.map_take, ← List.map_drop, List.all_cons, List.all_nil, Bool.cond_self, scD, VL, VB, BEq.rfl, V1, V2, V3, V4, V5, V6, V7, V8, V9, V10, VE, Nat.reduceBEq, Nat.reduceAdd, Nat.reduceSub, Nat.reduceMul, Nat.reduceLeDiff, Nat.reduceLT, Nat.reduceEqDiff, Int.reduceBEq, Int.reduceBNe, Int.reduceLT, Int.reduceLE, Int.reduceAdd, Int.reduceSub, Int.reduceMul]
  refine CallX.mk (equal_ok [0, 0, 2, 0] [0, 0, 2, 0]) rfl ?_
  simp only [bv, nv, c1, c2, List.append_eq, List.getD_cons_zero, List.getD_cons_succ, t0, t1, t3, ex9, ← List.map_take, ← List.map_drop, List.all_cons, List.all_nil, Bool.cond_self, scD, VL, VB, BEq.rfl, V1, V2, V3, V4, V5, V6, V7, V8, V9, V10, VE, Nat.reduceBEq, Nat.reduceAdd, Nat.reduceSub, Nat.reduceMul, Nat.reduceLeDiff, Nat.reduceLT, Nat.reduceEqDiff, Int.reduceBEq, Int.reduceBNe, Int.reduceLT, Int.reduceLE, Int.reduceAdd, Int.reduceSub, Int.reduceMul]
  refine CallX.mk (equal_ok [0, 0, 2, 0] [0, 0, 2, 0]) rfl ?_
  simp only [corr_def, bv, nv, c1, c2, List.append_eq, List.getD_cons_zero, List.getD_cons_succ, t0, t1, t3, ex9, ← List.map_take, ← List.map_drop, List.all_cons, List.all_nil, Bool.cond_self, scD, VL, VB, BEq.rfl, V1, V2, V3, V4, V5, V6, V7, V8, V9, V10, VE, Nat.reduceBEq, Nat.reduceAdd, Nat.reduceSub, Nat.reduceMul, Nat.reduceLeDiff, Nat.reduceLT, Nat.reduceEqDiff, Int.reduceBEq, Int.reduceBNe, Int.reduceLT, Int.reduceLE, Int.reduceAdd, Int.reduceSub, Int.reduceMul]
  refine CallX.mk (Ok.val (row_ok ⟨#[112, 98, 98]⟩ (by decide))) rfl ?_
  simp only [bv, nv, c1, c2, List.append_eq, List.getD_cons_zero, List.getD_cons_succ, t0, t1, t3, ex9, ← List.map_take, ← List.map_drop, List.all_cons, List.all_nil, Bool.cond_self, scD, VL, VB, BEq.rfl, V1, V2, V3, V4, V5, V6, V7, V8, V9, V10, VE, Nat.reduceBEq, Nat.reduceAdd, Nat.reduceSub, Nat.reduceMul, Nat.reduceLeDiff, Nat.reduceLT, Nat.reduceEqDiff, Int.reduceBEq, Int.reduceBNe, Int.reduceLT, Int.reduceLE, Int.reduceAdd, Int.reduceSub, Int.reduceMul]
  refine CallX.mk (same_ok _ _) rfl ?_
  simp only [bv, nv, c1, c2, List.append_eq, List.getD_cons_zero, List.getD_cons_succ, t0, t1, t3, ex9, ← List.map_take, ← List.map_drop, List.all_cons, List.all_nil, Bool.cond_self, scD, VL, VB, BEq.rfl, V1, V2, V3, V4, V5, V6, V7, V8, V9, V10, VE, Nat.reduceBEq, Nat.reduceAdd, Nat.reduceSub, Nat.reduceMul, Nat.reduceLeDiff, Nat.reduceLT, Nat.reduceEqDiff, Int.reduceBEq, Int.reduceBNe, Int.reduceLT, Int.reduceLE, Int.reduceAdd, Int.reduceSub, Int.reduceMul]
  refine CallX.mk (Ok.val (row_ok ⟨#[112, 98, 63]⟩ (by decide))) rfl ?_
  simp only [bv, nv, c1, c2, List.append_eq, List.getD_cons_zero, List.getD_cons_succ, t0, t1, t3, ex9, ← List.map_take, ← List.map_drop, List.all_cons, List.all_nil, Bool.cond_self, scD, VL, VB, BEq.rfl, V1, V2, V3, V4, V5, V6, V7, V8, V9, V10, VE, Nat.reduceBEq, Nat.reduceAdd, Nat.reduceSub, Nat.reduceMul, Nat.reduceLeDiff, Nat.reduceLT, Nat.reduceEqDiff, Int.reduceBEq, Int.reduceBNe, Int.reduceLT, Int.reduceLE, Int.reduceAdd, Int.reduceSub, Int.reduceMul]
  refine CallX.mk (same_ok _ _) rfl ?_
  simp only [bv, nv, c1, c2, List.append_eq, List.getD_cons_zero, List.getD_cons_succ, t0, t1, t3, ex9, ← List.map_take, ← List.map_drop, List.all_cons, List.all_nil, Bool.cond_self, scD, VL, VB, BEq.rfl, V1, V2, V3, V4, V5, V6, V7, V8, V9, V10, VE, Nat.reduceBEq, Nat.reduceAdd, Nat.reduceSub, Nat.reduceMul, Nat.reduceLeDiff, Nat.reduceLT, Nat.reduceEqDiff, Int.reduceBEq, Int.reduceBNe, Int.reduceLT, Int.reduceLE, Int.reduceAdd, Int.reduceSub, Int.reduceMul]

end Go.Cp
end

section
set_option linter.unusedVariables false
set_option linter.unusedSimpArgs false
set_option maxHeartbeats 8000000
set_option maxRecDepth 10000
namespace Go.Cp
open Go Go.Proofs Go.Vx

theorem wf_u32 {n : Int} (h : (Lit.int .u32 n).wf = true) : 0 ≤ n ∧ n < 4294967296 := by
  have h1 : IntKind.u32.min = 0 := rfl
  have h2 : IntKind.u32.max = 4294967295 := rfl
  simp only [Lit.wf, Bool.and_eq_true, decide_eq_true_eq] at h
  omega
theorem wf_u16 {n : Int} (h : (Lit.int .u16 n).wf = true) : 0 ≤ n ∧ n < 65536 := by
  have h1 : IntKind.u16.min = 0 := rfl
  have h2 : IntKind.u16.max = 65535 := rfl
  simp only [Lit.wf, Bool.and_eq_true, decide_eq_true_eq] at h
  omega
theorem list_of {α : Type} {Q : List D → Prop} {R : α → Prop} {enc : α → List D} (h : ∀ x, Q x → ∃ a, x = enc a ∧ R a) : ∀ xs : List (List D), (∀ x ∈ xs, Q x) → ∃ l : List α, xs = l.map enc ∧ ∀ a ∈ l, R a
  | [], _ => ⟨[], rfl, by simp⟩
  | x :: xs, hq => by
    obtain ⟨a, rfl, ha⟩ := h x (hq x (List.mem_cons_self ..))
    obtain ⟨l, rfl, hl⟩ := list_of h xs fun y hy => hq y (List.mem_cons_of_mem _ hy)
    exact ⟨a :: l, rfl, fun b hb => by
      rcases List.mem_cons.1 hb with rfl | hb
      · exact ha
      · exact hl b hb⟩
theorem typed_cell {m : Nat} {x : List D} (h : Typed Try.prog (m + 3) 57 x) : ∃ c : Cell, x = c.enc ∧ c.In := by
  simp only [Typed, Try.underlying57, TypedK, TypedFs, Try.underlying3, Try.underlying55, Try.underlying53] at h
  obtain ⟨_, _, rfl, ⟨k, rfl, _⟩, _, _, rfl, ⟨_, _, rfl, ⟨p, rfl, hp⟩, _, _, rfl, ⟨q, rfl, hq⟩, rfl⟩, rfl⟩ := h
  have hp := wf_u32 hp
  have hq := wf_u32 hq
  exact ⟨⟨k, p, q⟩, rfl, hp.1, hp.2, hq.1, hq.2⟩
theorem typed_cells {m : Nat} {x : List D} (h : Typed Try.prog (m + 4) 22 x) : ∃ l : List Cell, x = [cells l] ∧ ∀ c ∈ l, c.In := by
  unfold Typed at h
  rw [Try.underlying22] at h
  obtain ⟨xs, rfl, hx, _⟩ := h
  obtain ⟨l, rfl, hl⟩ := list_of (fun x hx => typed_cell hx) xs hx
  exact ⟨l, rfl, hl⟩
theorem typed_corr {m : Nat} {x : List D} (h : Typed Try.prog (m + 5) 52 x) : ∃ c : Corr, x = c.enc ∧ c.In := by
  unfold Typed at h
  rw [Try.underlying52] at h
  obtain ⟨_, _, rfl, h1, _, _, rfl, h2, rfl⟩ := h
  obtain ⟨l, rfl, hl⟩ := typed_cells h1
  simp only [Typed, Try.underlying3, TypedK] at h2
  obtain ⟨n, rfl, _⟩ := h2
  exact ⟨⟨l, n⟩, rfl, hl⟩
theorem typed_corrs {m : Nat} {x : List D} (h : Typed Try.prog (m + 6) 30 x) : ∃ l : List Corr, x = [corrs l] ∧ ∀ c ∈ l, c.In := by
  unfold Typed at h
  rw [Try.underlying30] at h
  obtain ⟨xs, rfl, hx, _⟩ := h
  obtain ⟨l, rfl, hl⟩ := list_of (fun x hx => typed_corr hx) xs hx
  exact ⟨l, rfl, hl⟩
theorem typed_nums {m : Nat} {x : List D} (h : Typed Try.prog (m + 2) 37 x) : ∃ l : List Int, x = [nums l] := by
  unfold Typed at h
  rw [Try.underlying37] at h
  obtain ⟨xs, rfl, hx, _⟩ := h
  obtain ⟨l, rfl, _⟩ := list_of (R := fun _ => True) (enc := num) (fun x hx => by
    simp only [Typed, Try.underlying3, TypedK] at hx
    obtain ⟨n, rfl, _⟩ := hx
    exact ⟨n, rfl, trivial⟩) xs hx
  exact ⟨l, rfl⟩
theorem typed_u16 {m : Nat} {x : List D} (h : Typed Try.prog (m + 1) 48 x) : ∃ n : Nat, x = u16D n ∧ n < 65536 := by
  simp only [Typed, Try.underlying48, TypedK] at h
  obtain ⟨n, rfl, hw⟩ := h
  have hw := wf_u16 hw
  obtain ⟨k, rfl⟩ := Int.eq_ofNat_of_zero_le hw.1
  exact ⟨k, rfl, by omega⟩
theorem typed_u16s {m : Nat} {x : List D} (h : Typed Try.prog (m + 2) 50 x) : ∃ l : List Nat, x = [.sl (l.map u16D)] ∧ ∀ n ∈ l, n < 65536 := by
  unfold Typed at h
  rw [Try.underlying50] at h
  obtain ⟨xs, rfl, hx, _⟩ := h
  obtain ⟨l, rfl, hl⟩ := list_of (fun x hx => typed_u16 hx) xs hx
  exact ⟨l, rfl, hl⟩
theorem own : ownKnob Try.prog.godebug = none := by kernel_rfl
theorem laid : laidOutB Try.prog = true := by kernel_rfl

end Go.Cp
end
