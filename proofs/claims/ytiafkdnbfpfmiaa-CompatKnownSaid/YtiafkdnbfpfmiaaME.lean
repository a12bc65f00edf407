/-
  Compat: the cells and the correspondences as data; the comparisons of the laws. Conditions: none.
  Compat: valid sounds, valid cells. Conditions: none.
  Compat: whether two lists of cells fit. Conditions: none.
  Compat: joins. Conditions: none.
  Compat: the document's valid sounds. Conditions: none.
  Compat: the document's valid cells; two lists of cells. Conditions: none.
  Compat: the document's join; two lists of cells. Conditions: none.
  Compat: Compatible and Join, both ways. Conditions: none.
  Compat: on valid cells the program's fit and join are the document's. Conditions: none.
  Compat: the checks of lists. Conditions: none.
  Compat: conflicts. Conditions: none.
-/
import Derived.Test.YtiafkdnbfpfmiaaMD
import Derived.Laws.BitsLemmas

section
set_option linter.unusedVariables false
set_option linter.unusedSimpArgs false
set_option maxHeartbeats 4000000
set_option maxRecDepth 10000
namespace Go.Cp
open Go Go.Proofs Go.Vx

structure Cell where
  kind : Int
  plus : Int
  minus : Int
  deriving DecidableEq
def Cell.enc (c : Cell) : List D := [.sc (.int .i64 c.kind), .sc (.int .u32 c.plus), .sc (.int .u32 c.minus)]
def Cell.zero : Cell := ⟨0, 0, 0⟩
abbrev cells (xs : List Cell) : D := .sl (xs.map Cell.enc)
structure Corr where
  cells : List Cell
  count : Int
  deriving DecidableEq
def Corr.enc (c : Corr) : List D := [.sl (c.cells.map Cell.enc), .sc (.int .i64 c.count)]
def Corr.zero : Corr := ⟨[], 0⟩
abbrev corrs (xs : List Corr) : D := .sl (xs.map Corr.enc)
def num (n : Int) : List D := [.sc (.int .i64 n)]
abbrev nums (xs : List Int) : D := .sl (xs.map num)

theorem getD_enc (xs : List Cell) (k : Nat) (h : k < xs.length) : (xs.map Cell.enc).getD k [] = (xs.getD k Cell.zero).enc := by
  simp [List.getD, List.getElem?_map, List.getElem?_eq_getElem h]
theorem getD_corr (xs : List Corr) (k : Nat) (h : k < xs.length) : (xs.map Corr.enc).getD k [] = (xs.getD k Corr.zero).enc := by
  simp [List.getD, List.getElem?_map, List.getElem?_eq_getElem h]
theorem getD_num (xs : List Int) (k : Nat) (h : k < xs.length) : (xs.map num).getD k [] = num (xs.getD k 0) := by
  simp [List.getD, List.getElem?_map, List.getElem?_eq_getElem h]
theorem enc_def (c : Cell) : c.enc = [.sc (.int .i64 c.kind), .sc (.int .u32 c.plus), .sc (.int .u32 c.minus)] := rfl
theorem corr_def (c : Corr) : c.enc = [.sl (c.cells.map Cell.enc), .sc (.int .i64 c.count)] := rfl
theorem num_def (n : Int) : num n = [.sc (.int .i64 n)] := rfl
theorem len_of {xs : List (List D)} (h : LenA (.c (.sl xs))) : xs.length ≤ 9223372036854775807 := by
  have h : LenD (.sl xs) := h
  cases h with
  | sl _ h _ => exact h
theorem wrap_of {n : Int} (h : 0 ≤ n) (h' : n ≤ 9223372036854775807) : IntKind.i64.wrap n = n := by
  rw [IntKind.wrap_i64]; omega
theorem cell_beq (x y : Cell) : (x.kind == y.kind && (x.plus == y.plus && x.minus == y.minus)) = decide (x = y) := by
  cases x; cases y
  simp only [Cell.mk.injEq, Bool.decide_and]
  rfl
theorem int_beq (x y : Int) : (x == y) = decide (x = y) := rfl

theorem same_ok (xs ys : List Cell) : Ok Try.prog E 17 [.c (cells xs), .c (cells ys)] (.c (.sc (.bool (decide (xs = ys))))) := by
  refine ok_of_vc (L := []) (ts := [4]) envOK mixed Try.func17 rfl (by kernel_rfl) rfl (by kernel_rfl) rfl fun hl => ?_
  have hx := len_of (hl _ (List.mem_cons_self ..))
  rw [List.length_map] at hx
  simp only [Try.f17, VL, VB, BEq.rfl, V1, V2, V3, V4, V5, V6, V7, V8, V9, V10, VE, Nat.reduceBEq, Nat.reduceAdd, Nat.reduceSub, Nat.reduceMul, Nat.reduceLeDiff, Nat.reduceLT, Nat.reduceEqDiff, Int.reduceBEq, Int.reduceBNe, Int.reduceLT, Int.reduceLE, Int.reduceAdd, Int.reduceSub, Int.reduceMul]
  refine guardB.mk (fun h => ?_) (fun h => ?_)
  · simp only [VL, VB, BEq.rfl, V1, V2, V3, V4, V5, V6, V7, V8, V9, V10, VE, Nat.reduceBEq, Nat.reduceAdd, Nat.reduceSub, Nat.reduceMul, Nat.reduceLeDiff, Nat.reduceLT, Nat.reduceEqDiff, Int.reduceBEq, Int.reduceBNe, Int.reduceLT, Int.reduceLE, Int.reduceAdd, Int.reduceSub, Int.reduceMul]
    have hne : xs ≠ ys := by rintro rfl; simp at h
    rw [decide_eq_false hne]
  · simp only [VL, VB, BEq.rfl, V1, V2, V3, V4, V5, V6, V7, V8, V9, V10, VE, Nat.reduceBEq, Nat.reduceAdd, Nat.reduceSub, Nat.reduceMul, Nat.reduceLeDiff, Nat.reduceLT, Nat.reduceEqDiff, Int.reduceBEq, Int.reduceBNe, Int.reduceLT, Int.reduceLE, Int.reduceAdd, Int.reduceSub, Int.reduceMul]
    have hlen : xs.length = ys.length := by simpa [Int.natCast_inj] using h
    refine LoopVC.mk (Y := Nat) (fun k => k ≤ xs.length ∧ ∀ i < k, xs[i]? = ys[i]?) (fun k => ⟨[(0, .c (.sl (xs.map Cell.enc))), (1, .c (.sl (ys.map Cell.enc))), (5, .c (.sc (.int .i64 k)))], []⟩) (fun k => xs.length - k) ⟨0, Enter.id ?_, by omega, by omega⟩ ?_
    · simp only [VL, VB, BEq.rfl, V1, V2, V3, V4, V5, V6, V7, V8, V9, V10, VE, Nat.reduceBEq, Nat.reduceAdd, Nat.reduceSub, Nat.reduceMul, Nat.reduceLeDiff, Nat.reduceLT, Nat.reduceEqDiff, Int.reduceBEq, Int.reduceBNe, Int.reduceLT, Int.reduceLE, Int.reduceAdd, Int.reduceSub, Int.reduceMul]
      rfl
    · rintro k ⟨hk, hpre⟩
      simp only [VL, VB, BEq.rfl, V1, V2, V3, V4, V5, V6, V7, V8, V9, V10, VE, Nat.reduceBEq, Nat.reduceAdd, Nat.reduceSub, Nat.reduceMul, Nat.reduceLeDiff, Nat.reduceLT, Nat.reduceEqDiff, Int.reduceBEq, Int.reduceBNe, Int.reduceLT, Int.reduceLE, Int.reduceAdd, Int.reduceSub, Int.reduceMul]
      refine guardB.mk (fun h => ?_) (fun h => ?_)
      · have hk' : k < xs.length := by simpa using h
        simp only [getD_enc, hk', show k < ys.length by omega, enc_def, cell_beq, VL, VB, BEq.rfl, V1, V2, V3, V4, V5, V6, V7, V8, V9, V10, VE, Nat.reduceBEq, Nat.reduceAdd, Nat.reduceSub, Nat.reduceMul, Nat.reduceLeDiff, Nat.reduceLT, Nat.reduceEqDiff, Int.reduceBEq, Int.reduceBNe, Int.reduceLT, Int.reduceLE, Int.reduceAdd, Int.reduceSub, Int.reduceMul]
        refine ⟨Int.natCast_nonneg k, Int.natCast_nonneg k, guardB.mk (fun h => ?_) (fun h => ?_)⟩
        · simp only [VL, VB, BEq.rfl, V1, V2, V3, V4, V5, V6, V7, V8, V9, V10, VE, Nat.reduceBEq, Nat.reduceAdd, Nat.reduceSub, Nat.reduceMul, Nat.reduceLeDiff, Nat.reduceLT, Nat.reduceEqDiff, Int.reduceBEq, Int.reduceBNe, Int.reduceLT, Int.reduceLE, Int.reduceAdd, Int.reduceSub, Int.reduceMul]
          have hne : xs ≠ ys := by rintro rfl; simp at h
          rw [decide_eq_false hne]
        · simp only [wrap_of (show (0 : Int) ≤ k + 1 by omega) (by omega), VL, VB, BEq.rfl, V1, V2, V3, V4, V5, V6, V7, V8, V9, V10, VE, Nat.reduceBEq, Nat.reduceAdd, Nat.reduceSub, Nat.reduceMul, Nat.reduceLeDiff, Nat.reduceLT, Nat.reduceEqDiff, Int.reduceBEq, Int.reduceBNe, Int.reduceLT, Int.reduceLE, Int.reduceAdd, Int.reduceSub, Int.reduceMul]
          refine ⟨k + 1, Enter.id ?_, ⟨by omega, fun i hi => ?_⟩, by show xs.length - (k + 1) < xs.length - k; omega⟩
          · simp only [VL, VB, BEq.rfl, V1, V2, V3, V4, V5, V6, V7, V8, V9, V10, VE, Nat.reduceBEq, Nat.reduceAdd, Nat.reduceSub, Nat.reduceMul, Nat.reduceLeDiff, Nat.reduceLT, Nat.reduceEqDiff, Int.reduceBEq, Int.reduceBNe, Int.reduceLT, Int.reduceLE, Int.reduceAdd, Int.reduceSub, Int.reduceMul]
            rfl
          · by_cases hik : i = k
            · subst hik
              have : xs.getD i Cell.zero = ys.getD i Cell.zero := by simpa using h
              simp only [List.getD, List.getElem?_eq_getElem hk', List.getElem?_eq_getElem (show i < ys.length by omega), Option.getD_some] at this
              rw [List.getElem?_eq_getElem hk', List.getElem?_eq_getElem (show i < ys.length by omega), this]
            · exact hpre i (by omega)
      · simp only [VL, VB, BEq.rfl, V1, V2, V3, V4, V5, V6, V7, V8, V9, V10, VE, Nat.reduceBEq, Nat.reduceAdd, Nat.reduceSub, Nat.reduceMul, Nat.reduceLeDiff, Nat.reduceLT, Nat.reduceEqDiff, Int.reduceBEq, Int.reduceBNe, Int.reduceLT, Int.reduceLE, Int.reduceAdd, Int.reduceSub, Int.reduceMul]
        have hk' : k = xs.length := by
          have : ¬ k < xs.length := by simpa using h
          omega
        have he : xs = ys := List.ext_getElem? fun i => by
          by_cases hi : i < k
          · exact hpre i hi
          · rw [List.getElem?_eq_none (by omega), List.getElem?_eq_none (by omega)]
        rw [decide_eq_true he]

end Go.Cp
end

section
set_option linter.unusedVariables false
set_option linter.unusedSimpArgs false
set_option maxHeartbeats 4000000
set_option maxRecDepth 10000
namespace Go.Cp
open Go Go.Proofs Go.Vx

def sound (p m : Int) : List D := [.sc (.int .u32 p), .sc (.int .u32 m)]
def validS (p m : Int) : Bool := decide (bits .and .u32 p m = 0) && decide (bits .or .u32 p m ≤ 16777215)

theorem valid_ok (p m : Int) : Ok Try.prog E 53 [.ag (sound p m)] (.c (.sc (.bool (validS p m)))) := by
  refine ok_of_vc (L := []) (ts := [2]) envOK mixed Try.func53 rfl (by kernel_rfl) rfl (by kernel_rfl) rfl fun hl => ?_
  simp only [Try.f53, sound, int_beq, VL, VB, BEq.rfl, V1, V2, V3, V4, V5, V6, V7, V8, V9, V10, VE, Nat.reduceBEq, Nat.reduceAdd, Nat.reduceSub, Nat.reduceMul, Nat.reduceLeDiff, Nat.reduceLT, Nat.reduceEqDiff, Int.reduceBEq, Int.reduceBNe, Int.reduceLT, Int.reduceLE, Int.reduceAdd, Int.reduceSub, Int.reduceMul]
  refine guardB.mk (fun h => ?_) (fun h => ?_)
  · simp only [h, validS, VL, VB, BEq.rfl, V1, V2, V3, V4, V5, V6, V7, V8, V9, V10, VE, Nat.reduceBEq, Nat.reduceAdd, Nat.reduceSub, Nat.reduceMul, Nat.reduceLeDiff, Nat.reduceLT, Nat.reduceEqDiff, Int.reduceBEq, Int.reduceBNe, Int.reduceLT, Int.reduceLE, Int.reduceAdd, Int.reduceSub, Int.reduceMul]
  · simp only [h, validS, VL, VB, BEq.rfl, V1, V2, V3, V4, V5, V6, V7, V8, V9, V10, VE, Nat.reduceBEq, Nat.reduceAdd, Nat.reduceSub, Nat.reduceMul, Nat.reduceLeDiff, Nat.reduceLT, Nat.reduceEqDiff, Int.reduceBEq, Int.reduceBNe, Int.reduceLT, Int.reduceLE, Int.reduceAdd, Int.reduceSub, Int.reduceMul]

def validC (c : Cell) : Bool := if c.kind = 2 then validS c.plus c.minus else (decide (c.kind = 0) || decide (c.kind = 1)) && decide (c = ⟨c.kind, 0, 0⟩)

theorem all_false {α : Type} {xs : List α} {p : α → Bool} {k : Nat} {z : α} (hk : k < xs.length) (h : p (xs.getD k z) = false) : xs.all p = false := by
  rw [List.all_eq_false]
  refine ⟨xs.getD k z, ?_, by rw [h]; simp⟩
  simp [List.getD, List.getElem?_eq_getElem hk]
theorem all_true {α : Type} {xs : List α} {p : α → Bool} {k : Nat} (hk : ¬ k < xs.length) (h : ∀ i < k, ∀ x, xs[i]? = some x → p x = true) : xs.all p = true := by
  rw [List.all_eq_true]
  intro x hx
  obtain ⟨i, hi⟩ := List.getElem?_of_mem hx
  exact h i (by have := (List.getElem?_eq_some_iff.1 hi).1; omega) x hi
theorem all_next {α : Type} {xs : List α} {p : α → Bool} {k : Nat} {z : α} (hk : k < xs.length) (h : ∀ i < k, ∀ x, xs[i]? = some x → p x = true) (h' : p (xs.getD k z) = true) : ∀ i < k + 1, ∀ x, xs[i]? = some x → p x = true := by
  intro i hi x hx
  by_cases hik : i = k
  · subst hik
    rw [List.getD, hx] at h'
    exact h'
  · exact h i (by omega) x hx

theorem cvalid_ok (xs : List Cell) : Ok Try.prog E 38 [.c (cells xs)] (.c (.sc (.bool (xs.all validC)))) := by
  refine ok_of_vc (L := []) (ts := [2]) envOK mixed Try.func38 rfl (by kernel_rfl) rfl (by kernel_rfl) rfl fun hl => ?_
  have hx := len_of (hl _ (List.mem_cons_self ..))
  rw [List.length_map] at hx
  simp only [Try.f38, VL, VB, BEq.rfl, V1, V2, V3, V4, V5, V6, V7, V8, V9, V10, VE, Nat.reduceBEq, Nat.reduceAdd, Nat.reduceSub, Nat.reduceMul, Nat.reduceLeDiff, Nat.reduceLT, Nat.reduceEqDiff, Int.reduceBEq, Int.reduceBNe, Int.reduceLT, Int.reduceLE, Int.reduceAdd, Int.reduceSub, Int.reduceMul]
  refine LoopVC.mk (Y := Nat) (fun k => k ≤ xs.length ∧ ∀ i < k, ∀ x, xs[i]? = some x → validC x = true) (fun k => ⟨[(0, .c (.sl (xs.map Cell.enc))), (5, .c (.sl (xs.map Cell.enc))), (6, .c (.sc (.int .i64 xs.length))), (7, .c (.sc (.int .i64 k)))], []⟩) (fun k => xs.length - k) ⟨0, Enter.id ?_, by omega, by omega⟩ ?_
  · simp only [VL, VB, BEq.rfl, V1, V2, V3, V4, V5, V6, V7, V8, V9, V10, VE, Nat.reduceBEq, Nat.reduceAdd, Nat.reduceSub, Nat.reduceMul, Nat.reduceLeDiff, Nat.reduceLT, Nat.reduceEqDiff, Int.reduceBEq, Int.reduceBNe, Int.reduceLT, Int.reduceLE, Int.reduceAdd, Int.reduceSub, Int.reduceMul]
    rfl
  rintro k ⟨hk, hpre⟩
  simp only [VL, VB, BEq.rfl, V1, V2, V3, V4, V5, V6, V7, V8, V9, V10, VE, Nat.reduceBEq, Nat.reduceAdd, Nat.reduceSub, Nat.reduceMul, Nat.reduceLeDiff, Nat.reduceLT, Nat.reduceEqDiff, Int.reduceBEq, Int.reduceBNe, Int.reduceLT, Int.reduceLE, Int.reduceAdd, Int.reduceSub, Int.reduceMul]
  refine guardB.mk (fun h => ?_) (fun h => ?_)
  · have hk' : k < xs.length := by simpa using h
    simp only [getD_enc, hk', enc_def, cell_beq, int_beq, VL, VB, BEq.rfl, V1, V2, V3, V4, V5, V6, V7, V8, V9, V10, VE, Nat.reduceBEq, Nat.reduceAdd, Nat.reduceSub, Nat.reduceMul, Nat.reduceLeDiff, Nat.reduceLT, Nat.reduceEqDiff, Int.reduceBEq, Int.reduceBNe, Int.reduceLT, Int.reduceLE, Int.reduceAdd, Int.reduceSub, Int.reduceMul]
    refine ⟨Int.natCast_nonneg k, ?_⟩
    generalize hc : xs.getD k Cell.zero = c
    have hwrap : IntKind.i64.wrap ((k : Int) + 1) = ((k + 1 : Nat) : Int) := by rw [wrap_of (by omega) (by omega)]; rfl
    have hno : validC c = false → D.sc (Value.bool false) = D.sc (Value.bool (xs.all validC)) := fun hf => by rw [all_false (z := Cell.zero) hk' (by rw [hc]; exact hf)]
    have hyes : validC c = true → (∀ i < k + 1, ∀ x, xs[i]? = some x → validC x = true) := fun hf => all_next (z := Cell.zero) hk' hpre (by rw [hc]; exact hf)
    refine guardB.mk (fun h2 => ?_) (fun h2 => ?_)
    · simp only [h2, VL, VB, BEq.rfl, V1, V2, V3, V4, V5, V6, V7, V8, V9, V10, VE, Nat.reduceBEq, Nat.reduceAdd, Nat.reduceSub, Nat.reduceMul, Nat.reduceLeDiff, Nat.reduceLT, Nat.reduceEqDiff, Int.reduceBEq, Int.reduceBNe, Int.reduceLT, Int.reduceLE, Int.reduceAdd, Int.reduceSub, Int.reduceMul]
      refine CallX.mk (valid_ok _ _) rfl ?_
      simp only [VL, VB, BEq.rfl, V1, V2, V3, V4, V5, V6, V7, V8, V9, V10, VE, Nat.reduceBEq, Nat.reduceAdd, Nat.reduceSub, Nat.reduceMul, Nat.reduceLeDiff, Nat.reduceLT, Nat.reduceEqDiff, Int.reduceBEq, Int.reduceBNe, Int.reduceLT, Int.reduceLE, Int.reduceAdd, Int.reduceSub, Int.reduceMul]
      refine guardB.mk (fun h3 => ?_) (fun h3 => ?_) <;> simp only [h3, hwrap, VL, VB, BEq.rfl, V1, V2, V3, V4, V5, V6, V7, V8, V9, V10, VE, Nat.reduceBEq, Nat.reduceAdd, Nat.reduceSub, Nat.reduceMul, Nat.reduceLeDiff, Nat.reduceLT, Nat.reduceEqDiff, Int.reduceBEq, Int.reduceBNe, Int.reduceLT, Int.reduceLE, Int.reduceAdd, Int.reduceSub, Int.reduceMul]
      · exact hno (by simp_all [validC])
      · refine ⟨k + 1, Enter.id ?_, ⟨by omega, hyes (by simp_all [validC])⟩, by show xs.length - (k + 1) < xs.length - k; omega⟩
        simp only [VL, VB, BEq.rfl, V1, V2, V3, V4, V5, V6, V7, V8, V9, V10, VE, Nat.reduceBEq, Nat.reduceAdd, Nat.reduceSub, Nat.reduceMul, Nat.reduceLeDiff, Nat.reduceLT, Nat.reduceEqDiff, Int.reduceBEq, Int.reduceBNe, Int.reduceLT, Int.reduceLE, Int.reduceAdd, Int.reduceSub, Int.reduceMul]
    · simp only [h2, VL, VB, BEq.rfl, V1, V2, V3, V4, V5, V6, V7, V8, V9, V10, VE, Nat.reduceBEq, Nat.reduceAdd, Nat.reduceSub, Nat.reduceMul, Nat.reduceLeDiff, Nat.reduceLT, Nat.reduceEqDiff, Int.reduceBEq, Int.reduceBNe, Int.reduceLT, Int.reduceLE, Int.reduceAdd, Int.reduceSub, Int.reduceMul]
      have hkz : ∀ {t : Bool}, (c.kind == 0) = t ∨ (c.kind == 1) = t → True := fun _ => trivial
      refine guardB.mk (fun h3 => ?_) (fun h3 => ?_) <;> simp only [h3, VL, VB, BEq.rfl, V1, V2, V3, V4, V5, V6, V7, V8, V9, V10, VE, Nat.reduceBEq, Nat.reduceAdd, Nat.reduceSub, Nat.reduceMul, Nat.reduceLeDiff, Nat.reduceLT, Nat.reduceEqDiff, Int.reduceBEq, Int.reduceBNe, Int.reduceLT, Int.reduceLE, Int.reduceAdd, Int.reduceSub, Int.reduceMul]
      · refine guardB.mk (fun h4 => ?_) (fun h4 => ?_) <;> simp only [h4, hwrap, VL, VB, BEq.rfl, V1, V2, V3, V4, V5, V6, V7, V8, V9, V10, VE, Nat.reduceBEq, Nat.reduceAdd, Nat.reduceSub, Nat.reduceMul, Nat.reduceLeDiff, Nat.reduceLT, Nat.reduceEqDiff, Int.reduceBEq, Int.reduceBNe, Int.reduceLT, Int.reduceLE, Int.reduceAdd, Int.reduceSub, Int.reduceMul]
        · exact hno (by cases c; simp_all [validC]; try omega)
        · refine ⟨k + 1, Enter.id ?_, ⟨by omega, hyes (by cases c; simp_all [validC]; try omega)⟩, by show xs.length - (k + 1) < xs.length - k; omega⟩
          simp only [VL, VB, BEq.rfl, V1, V2, V3, V4, V5, V6, V7, V8, V9, V10, VE, Nat.reduceBEq, Nat.reduceAdd, Nat.reduceSub, Nat.reduceMul, Nat.reduceLeDiff, Nat.reduceLT, Nat.reduceEqDiff, Int.reduceBEq, Int.reduceBNe, Int.reduceLT, Int.reduceLE, Int.reduceAdd, Int.reduceSub, Int.reduceMul]
      · refine guardB.mk (fun h4 => ?_) (fun h4 => ?_) <;> simp only [h4, VL, VB, BEq.rfl, V1, V2, V3, V4, V5, V6, V7, V8, V9, V10, VE, Nat.reduceBEq, Nat.reduceAdd, Nat.reduceSub, Nat.reduceMul, Nat.reduceLeDiff, Nat.reduceLT, Nat.reduceEqDiff, Int.reduceBEq, Int.reduceBNe, Int.reduceLT, Int.reduceLE, Int.reduceAdd, Int.reduceSub, Int.reduceMul]
        · refine guardB.mk (fun h5 => ?_) (fun h5 => ?_) <;> simp only [h5, hwrap, VL, VB, BEq.rfl, V1, V2, V3, V4, V5, V6, V7, V8, V9, V10, VE, Nat.reduceBEq, Nat.reduceAdd, Nat.reduceSub, Nat.reduceMul, Nat.reduceLeDiff, Nat.reduceLT, Nat.reduceEqDiff, Int.reduceBEq, Int.reduceBNe, Int.reduceLT, Int.reduceLE, Int.reduceAdd, Int.reduceSub, Int.reduceMul]
          · exact hno (by cases c; simp_all [validC]; try omega)
          · refine ⟨k + 1, Enter.id ?_, ⟨by omega, hyes (by cases c; simp_all [validC]; try omega)⟩, by show xs.length - (k + 1) < xs.length - k; omega⟩
            simp only [VL, VB, BEq.rfl, V1, V2, V3, V4, V5, V6, V7, V8, V9, V10, VE, Nat.reduceBEq, Nat.reduceAdd, Nat.reduceSub, Nat.reduceMul, Nat.reduceLeDiff, Nat.reduceLT, Nat.reduceEqDiff, Int.reduceBEq, Int.reduceBNe, Int.reduceLT, Int.reduceLE, Int.reduceAdd, Int.reduceSub, Int.reduceMul]
        · exact hno (by cases c; simp_all [validC]; try omega)
  · simp only [VL, VB, BEq.rfl, V1, V2, V3, V4, V5, V6, V7, V8, V9, V10, VE, Nat.reduceBEq, Nat.reduceAdd, Nat.reduceSub, Nat.reduceMul, Nat.reduceLeDiff, Nat.reduceLT, Nat.reduceEqDiff, Int.reduceBEq, Int.reduceBNe, Int.reduceLT, Int.reduceLE, Int.reduceAdd, Int.reduceSub, Int.reduceMul]
    have hk' : ¬ k < xs.length := by simpa using h
    rw [all_true hk' hpre]

end Go.Cp
end

section
set_option linter.unusedVariables false
set_option linter.unusedSimpArgs false
set_option maxHeartbeats 4000000
set_option maxRecDepth 10000
namespace Go.Cp
open Go Go.Proofs Go.Vx

def fitP (p : Cell × Cell) : Bool := decide (p.1 = p.2) || (decide (p.1 = Cell.zero) || decide (p.2 = Cell.zero))
def fitC (xs ys : List Cell) : Bool := (xs.zip ys).all fitP
def fitQ (p : Cell × Cell) : Bool := decide (p.1 = p.2) || (decide (p.1.kind = 0) || decide (p.2.kind = 0))
def fitR (xs ys : List Cell) : Bool := (xs.zip ys).all fitQ

theorem zip_getD {xs ys : List Cell} {k : Nat} (h : k < xs.length) (h' : k < ys.length) : (xs.zip ys).getD k (Cell.zero, Cell.zero) = (xs.getD k Cell.zero, ys.getD k Cell.zero) := by
  have hz : k < (xs.zip ys).length := by rw [List.length_zip]; omega
  simp only [List.getD, List.getElem?_eq_getElem h, List.getElem?_eq_getElem h', List.getElem?_eq_getElem hz, Option.getD_some, List.getElem_zip]

theorem zero_beq (x : Cell) : (x.kind == 0 && (x.plus == 0 && x.minus == 0)) = decide (x = Cell.zero) := cell_beq x Cell.zero

theorem fit_ok (xs ys : List Cell) (hle : xs.length ≤ ys.length) : Ok Try.prog E 39 [.c (cells xs), .c (cells ys)] (.c (.sc (.bool (fitC xs ys)))) := by
  refine ok_of_vc (L := []) (ts := [4]) envOK mixed Try.func39 rfl (by kernel_rfl) rfl (by kernel_rfl) rfl fun hl => ?_
  have hx := len_of (hl _ (List.mem_cons_self ..))
  rw [List.length_map] at hx
  have hz : (xs.zip ys).length = xs.length := by rw [List.length_zip]; omega
  simp only [Try.f39, VL, VB, BEq.rfl, V1, V2, V3, V4, V5, V6, V7, V8, V9, V10, VE, Nat.reduceBEq, Nat.reduceAdd, Nat.reduceSub, Nat.reduceMul, Nat.reduceLeDiff, Nat.reduceLT, Nat.reduceEqDiff, Int.reduceBEq, Int.reduceBNe, Int.reduceLT, Int.reduceLE, Int.reduceAdd, Int.reduceSub, Int.reduceMul]
  refine LoopVC.mk (Y := Nat) (fun k => k ≤ xs.length ∧ ∀ i < k, ∀ x, (xs.zip ys)[i]? = some x → fitP x = true) (fun k => ⟨[(0, .c (.sl (xs.map Cell.enc))), (1, .c (.sl (ys.map Cell.enc))), (8, .c (.sl (xs.map Cell.enc))), (9, .c (.sc (.int .i64 xs.length))), (10, .c (.sc (.int .i64 k)))], []⟩) (fun k => xs.length - k) ⟨0, Enter.id ?_, by omega, by omega⟩ ?_
  · simp only [VL, VB, BEq.rfl, V1, V2, V3, V4, V5, V6, V7, V8, V9, V10, VE, Nat.reduceBEq, Nat.reduceAdd, Nat.reduceSub, Nat.reduceMul, Nat.reduceLeDiff, Nat.reduceLT, Nat.reduceEqDiff, Int.reduceBEq, Int.reduceBNe, Int.reduceLT, Int.reduceLE, Int.reduceAdd, Int.reduceSub, Int.reduceMul]
    rfl
  rintro k ⟨hk, hpre⟩
  simp only [VL, VB, BEq.rfl, V1, V2, V3, V4, V5, V6, V7, V8, V9, V10, VE, Nat.reduceBEq, Nat.reduceAdd, Nat.reduceSub, Nat.reduceMul, Nat.reduceLeDiff, Nat.reduceLT, Nat.reduceEqDiff, Int.reduceBEq, Int.reduceBNe, Int.reduceLT, Int.reduceLE, Int.reduceAdd, Int.reduceSub, Int.reduceMul]
  refine guardB.mk (fun h => ?_) (fun h => ?_)
  · have hk' : k < xs.length := by simpa using h
    have hky : k < ys.length := by omega
    obtain ⟨c, hc⟩ : ∃ c, xs.getD k Cell.zero = c := ⟨_, rfl⟩
    obtain ⟨d, hd⟩ : ∃ d, ys.getD k Cell.zero = d := ⟨_, rfl⟩
    have hzk : (xs.zip ys).getD k (Cell.zero, Cell.zero) = (c, d) := by rw [zip_getD hk' hky, hc, hd]
    have hwrap : IntKind.i64.wrap ((k : Int) + 1) = ((k + 1 : Nat) : Int) := by rw [wrap_of (by omega) (by omega)]; rfl
    have hno : fitP (c, d) = false → D.sc (Value.bool false) = D.sc (Value.bool (fitC xs ys)) := fun hf => by rw [fitC, all_false (k := k) (z := (Cell.zero, Cell.zero)) (by omega) (by rw [hzk]; exact hf)]
    have hyes : fitP (c, d) = true → (∀ i < k + 1, ∀ x, (xs.zip ys)[i]? = some x → fitP x = true) := fun hf => all_next (z := (Cell.zero, Cell.zero)) (by omega) hpre (by rw [hzk]; exact hf)
    simp only [getD_enc, hk', hky, hc, hd, enc_def, cell_beq, zero_beq, hwrap, VL, VB, BEq.rfl, V1, V2, V3, V4, V5, V6, V7, V8, V9, V10, VE, Nat.reduceBEq, Nat.reduceAdd, Nat.reduceSub, Nat.reduceMul, Nat.reduceLeDiff, Nat.reduceLT, Nat.reduceEqDiff, Int.reduceBEq, Int.reduceBNe, Int.reduceLT, Int.reduceLE, Int.reduceAdd, Int.reduceSub, Int.reduceMul]
    refine ⟨Int.natCast_nonneg k, Int.natCast_nonneg k, ?_⟩
    refine guardB.mk (fun h2 => ?_) (fun h2 => ?_) <;> simp only [h2, getD_enc, hk', hky, hc, hd, enc_def, cell_beq, zero_beq, hwrap, VL, VB, BEq.rfl, V1, V2, V3, V4, V5, V6, V7, V8, V9, V10, VE, Nat.reduceBEq, Nat.reduceAdd, Nat.reduceSub, Nat.reduceMul, Nat.reduceLeDiff, Nat.reduceLT, Nat.reduceEqDiff, Int.reduceBEq, Int.reduceBNe, Int.reduceLT, Int.reduceLE, Int.reduceAdd, Int.reduceSub, Int.reduceMul]
    · refine guardB.mk (fun h3 => ?_) (fun h3 => ?_) <;> simp only [h3, getD_enc, hk', hky, hc, hd, enc_def, cell_beq, zero_beq, hwrap, VL, VB, BEq.rfl, V1, V2, V3, V4, V5, V6, V7, V8, V9, V10, VE, Nat.reduceBEq, Nat.reduceAdd, Nat.reduceSub, Nat.reduceMul, Nat.reduceLeDiff, Nat.reduceLT, Nat.reduceEqDiff, Int.reduceBEq, Int.reduceBNe, Int.reduceLT, Int.reduceLE, Int.reduceAdd, Int.reduceSub, Int.reduceMul]
      · refine ⟨Int.natCast_nonneg k, ?_⟩
        refine guardB.mk (fun h4 => ?_) (fun h4 => ?_) <;> simp only [h4, getD_enc, hk', hky, hc, hd, enc_def, cell_beq, zero_beq, hwrap, VL, VB, BEq.rfl, V1, V2, V3, V4, V5, V6, V7, V8, V9, V10, VE, Nat.reduceBEq, Nat.reduceAdd, Nat.reduceSub, Nat.reduceMul, Nat.reduceLeDiff, Nat.reduceLT, Nat.reduceEqDiff, Int.reduceBEq, Int.reduceBNe, Int.reduceLT, Int.reduceLE, Int.reduceAdd, Int.reduceSub, Int.reduceMul]
        · exact hno (by simp_all [fitP])
        · refine ⟨k + 1, Enter.id (by simp only [VL, VB, BEq.rfl, V1, V2, V3, V4, V5, V6, V7, V8, V9, V10, VE, Nat.reduceBEq, Nat.reduceAdd, Nat.reduceSub, Nat.reduceMul, Nat.reduceLeDiff, Nat.reduceLT, Nat.reduceEqDiff, Int.reduceBEq, Int.reduceBNe, Int.reduceLT, Int.reduceLE, Int.reduceAdd, Int.reduceSub, Int.reduceMul]), ⟨by omega, hyes (by simp_all [fitP])⟩, by show xs.length - (k + 1) < xs.length - k; omega⟩
      · refine ⟨k + 1, Enter.id (by simp only [VL, VB, BEq.rfl, V1, V2, V3, V4, V5, V6, V7, V8, V9, V10, VE, Nat.reduceBEq, Nat.reduceAdd, Nat.reduceSub, Nat.reduceMul, Nat.reduceLeDiff, Nat.reduceLT, Nat.reduceEqDiff, Int.reduceBEq, Int.reduceBNe, Int.reduceLT, Int.reduceLE, Int.reduceAdd, Int.reduceSub, Int.reduceMul]), ⟨by omega, hyes (by simp_all [fitP])⟩, by show xs.length - (k + 1) < xs.length - k; omega⟩
    · refine ⟨k + 1, Enter.id (by simp only [VL, VB, BEq.rfl, V1, V2, V3, V4, V5, V6, V7, V8, V9, V10, VE, Nat.reduceBEq, Nat.reduceAdd, Nat.reduceSub, Nat.reduceMul, Nat.reduceLeDiff, Nat.reduceLT, Nat.reduceEqDiff, Int.reduceBEq, Int.reduceBNe, Int.reduceLT, Int.reduceLE, Int.reduceAdd, Int.reduceSub, Int.reduceMul]), ⟨by omega, hyes (by simp_all [fitP])⟩, by show xs.length - (k + 1) < xs.length - k; omega⟩
  · simp only [VL, VB, BEq.rfl, V1, V2, V3, V4, V5, V6, V7, V8, V9, V10, VE, Nat.reduceBEq, Nat.reduceAdd, Nat.reduceSub, Nat.reduceMul, Nat.reduceLeDiff, Nat.reduceLT, Nat.reduceEqDiff, Int.reduceBEq, Int.reduceBNe, Int.reduceLT, Int.reduceLE, Int.reduceAdd, Int.reduceSub, Int.reduceMul]
    have hk' : ¬ k < xs.length := by simpa using h
    rw [fitC, all_true (by rw [hz]; exact hk') hpre]

theorem rfit_ok (xs ys : List Cell) (hle : xs.length ≤ ys.length) : Ok Try.prog E 41 [.c (cells xs), .c (cells ys)] (.c (.sc (.bool (fitR xs ys)))) := by
  refine ok_of_vc (L := []) (ts := [4]) envOK mixed Try.func41 rfl (by kernel_rfl) rfl (by kernel_rfl) rfl fun hl => ?_
  have hx := len_of (hl _ (List.mem_cons_self ..))
  rw [List.length_map] at hx
  have hz : (xs.zip ys).length = xs.length := by rw [List.length_zip]; omega
  simp only [Try.f41, VL, VB, BEq.rfl, V1, V2, V3, V4, V5, V6, V7, V8, V9, V10, VE, Nat.reduceBEq, Nat.reduceAdd, Nat.reduceSub, Nat.reduceMul, Nat.reduceLeDiff, Nat.reduceLT, Nat.reduceEqDiff, Int.reduceBEq, Int.reduceBNe, Int.reduceLT, Int.reduceLE, Int.reduceAdd, Int.reduceSub, Int.reduceMul]
  refine LoopVC.mk (Y := Nat) (fun k => k ≤ xs.length ∧ ∀ i < k, ∀ x, (xs.zip ys)[i]? = some x → fitQ x = true) (fun k => ⟨[(0, .c (.sl (xs.map Cell.enc))), (1, .c (.sl (ys.map Cell.enc))), (5, .c (.sc (.int .i64 k)))], []⟩) (fun k => xs.length - k) ⟨0, Enter.id ?_, by omega, by omega⟩ ?_
  · simp only [VL, VB, BEq.rfl, V1, V2, V3, V4, V5, V6, V7, V8, V9, V10, VE, Nat.reduceBEq, Nat.reduceAdd, Nat.reduceSub, Nat.reduceMul, Nat.reduceLeDiff, Nat.reduceLT, Nat.reduceEqDiff, Int.reduceBEq, Int.reduceBNe, Int.reduceLT, Int.reduceLE, Int.reduceAdd, Int.reduceSub, Int.reduceMul]
    rfl
  rintro k ⟨hk, hpre⟩
  simp only [VL, VB, BEq.rfl, V1, V2, V3, V4, V5, V6, V7, V8, V9, V10, VE, Nat.reduceBEq, Nat.reduceAdd, Nat.reduceSub, Nat.reduceMul, Nat.reduceLeDiff, Nat.reduceLT, Nat.reduceEqDiff, Int.reduceBEq, Int.reduceBNe, Int.reduceLT, Int.reduceLE, Int.reduceAdd, Int.reduceSub, Int.reduceMul]
  refine guardB.mk (fun h => ?_) (fun h => ?_)
  · have hk' : k < xs.length := by simpa using h
    have hky : k < ys.length := by omega
    obtain ⟨c, hc⟩ : ∃ c, xs.getD k Cell.zero = c := ⟨_, rfl⟩
    obtain ⟨d, hd⟩ : ∃ d, ys.getD k Cell.zero = d := ⟨_, rfl⟩
    have hzk : (xs.zip ys).getD k (Cell.zero, Cell.zero) = (c, d) := by rw [zip_getD hk' hky, hc, hd]
    have hwrap : IntKind.i64.wrap ((k : Int) + 1) = ((k + 1 : Nat) : Int) := by rw [wrap_of (by omega) (by omega)]; rfl
    have hno : fitQ (c, d) = false → D.sc (Value.bool false) = D.sc (Value.bool (fitR xs ys)) := fun hf => by rw [fitR, all_false (k := k) (z := (Cell.zero, Cell.zero)) (by omega) (by rw [hzk]; exact hf)]
    have hyes : fitQ (c, d) = true → (∀ i < k + 1, ∀ x, (xs.zip ys)[i]? = some x → fitQ x = true) := fun hf => all_next (z := (Cell.zero, Cell.zero)) (by omega) hpre (by rw [hzk]; exact hf)
    simp only [getD_enc, hk', hky, hc, hd, enc_def, cell_beq, hwrap, VL, VB, BEq.rfl, V1, V2, V3, V4, V5, V6, V7, V8, V9, V10, VE, Nat.reduceBEq, Nat.reduceAdd, Nat.reduceSub, Nat.reduceMul, Nat.reduceLeDiff, Nat.reduceLT, Nat.reduceEqDiff, Int.reduceBEq, Int.reduceBNe, Int.reduceLT, Int.reduceLE, Int.reduceAdd, Int.reduceSub, Int.reduceMul]
    refine ⟨Int.natCast_nonneg k, Int.natCast_nonneg k, ?_⟩
    refine guardB.mk (fun h2 => ?_) (fun h2 => ?_) <;> simp only [h2, getD_enc, hk', hky, hc, hd, enc_def, cell_beq, hwrap, VL, VB, BEq.rfl, V1, V2, V3, V4, V5, V6, V7, V8, V9, V10, VE, Nat.reduceBEq, Nat.reduceAdd, Nat.reduceSub, Nat.reduceMul, Nat.reduceLeDiff, Nat.reduceLT, Nat.reduceEqDiff, Int.reduceBEq, Int.reduceBNe, Int.reduceLT, Int.reduceLE, Int.reduceAdd, Int.reduceSub, Int.reduceMul]
    · refine ⟨Int.natCast_nonneg k, ?_⟩
      refine guardB.mk (fun h3 => ?_) (fun h3 => ?_) <;> simp only [h3, getD_enc, hk', hky, hc, hd, enc_def, cell_beq, hwrap, VL, VB, BEq.rfl, V1, V2, V3, V4, V5, V6, V7, V8, V9, V10, VE, Nat.reduceBEq, Nat.reduceAdd, Nat.reduceSub, Nat.reduceMul, Nat.reduceLeDiff, Nat.reduceLT, Nat.reduceEqDiff, Int.reduceBEq, Int.reduceBNe, Int.reduceLT, Int.reduceLE, Int.reduceAdd, Int.reduceSub, Int.reduceMul]
      · refine ⟨Int.natCast_nonneg k, ?_⟩
        refine guardB.mk (fun h4 => ?_) (fun h4 => ?_) <;> simp only [h4, getD_enc, hk', hky, hc, hd, enc_def, cell_beq, hwrap, VL, VB, BEq.rfl, V1, V2, V3, V4, V5, V6, V7, V8, V9, V10, VE, Nat.reduceBEq, Nat.reduceAdd, Nat.reduceSub, Nat.reduceMul, Nat.reduceLeDiff, Nat.reduceLT, Nat.reduceEqDiff, Int.reduceBEq, Int.reduceBNe, Int.reduceLT, Int.reduceLE, Int.reduceAdd, Int.reduceSub, Int.reduceMul]
        · exact hno (by simp_all [fitQ])
        · refine ⟨k + 1, Enter.id (by simp only [VL, VB, BEq.rfl, V1, V2, V3, V4, V5, V6, V7, V8, V9, V10, VE, Nat.reduceBEq, Nat.reduceAdd, Nat.reduceSub, Nat.reduceMul, Nat.reduceLeDiff, Nat.reduceLT, Nat.reduceEqDiff, Int.reduceBEq, Int.reduceBNe, Int.reduceLT, Int.reduceLE, Int.reduceAdd, Int.reduceSub, Int.reduceMul]), ⟨by omega, hyes (by simp_all [fitQ])⟩, by show xs.length - (k + 1) < xs.length - k; omega⟩
      · refine ⟨k + 1, Enter.id (by simp only [VL, VB, BEq.rfl, V1, V2, V3, V4, V5, V6, V7, V8, V9, V10, VE, Nat.reduceBEq, Nat.reduceAdd, Nat.reduceSub, Nat.reduceMul, Nat.reduceLeDiff, Nat.reduceLT, Nat.reduceEqDiff, Int.reduceBEq, Int.reduceBNe, Int.reduceLT, Int.reduceLE, Int.reduceAdd, Int.reduceSub, Int.reduceMul]), ⟨by omega, hyes (by simp_all [fitQ])⟩, by show xs.length - (k + 1) < xs.length - k; omega⟩
    · refine ⟨k + 1, Enter.id (by simp only [VL, VB, BEq.rfl, V1, V2, V3, V4, V5, V6, V7, V8, V9, V10, VE, Nat.reduceBEq, Nat.reduceAdd, Nat.reduceSub, Nat.reduceMul, Nat.reduceLeDiff, Nat.reduceLT, Nat.reduceEqDiff, Int.reduceBEq, Int.reduceBNe, Int.reduceLT, Int.reduceLE, Int.reduceAdd, Int.reduceSub, Int.reduceMul]), ⟨by omega, hyes (by simp_all [fitQ])⟩, by show xs.length - (k + 1) < xs.length - k; omega⟩
  · simp only [VL, VB, BEq.rfl, V1, V2, V3, V4, V5, V6, V7, V8, V9, V10, VE, Nat.reduceBEq, Nat.reduceAdd, Nat.reduceSub, Nat.reduceMul, Nat.reduceLeDiff, Nat.reduceLT, Nat.reduceEqDiff, Int.reduceBEq, Int.reduceBNe, Int.reduceLT, Int.reduceLE, Int.reduceAdd, Int.reduceSub, Int.reduceMul]
    have hk' : ¬ k < xs.length := by simpa using h
    rw [fitR, all_true (by rw [hz]; exact hk') hpre]

end Go.Cp
end

section
set_option linter.unusedVariables false
set_option linter.unusedSimpArgs false
set_option maxHeartbeats 4000000
set_option maxRecDepth 10000
namespace Go.Cp
open Go Go.Proofs Go.Vx

def joinP (x y : Cell) : Cell := if x = Cell.zero then y else x
def joinC (xs ys : List Cell) : List Cell := List.zipWith joinP xs ys
def mix (xs ys : List Cell) (k : Nat) : List Cell := (joinC xs ys).take k ++ xs.drop k

theorem joinC_len {xs ys : List Cell} (h : xs.length ≤ ys.length) : (joinC xs ys).length = xs.length := by
  simp only [joinC, List.length_zipWith]; omega
theorem mix_len {xs ys : List Cell} {k : Nat} (h : xs.length ≤ ys.length) (hk : k ≤ xs.length) : (mix xs ys k).length = xs.length := by
  simp only [mix, List.length_append, List.length_take, List.length_drop, joinC_len h]; omega
theorem mix_zero (xs ys : List Cell) : mix xs ys 0 = xs := by simp [mix]
theorem mix_all {xs ys : List Cell} {k : Nat} (h : xs.length ≤ ys.length) (hk : ¬ k < xs.length) : mix xs ys k = joinC xs ys := by
  have : (joinC xs ys).length = xs.length := joinC_len h
  simp only [mix]
  rw [List.take_of_length_le (by omega), List.drop_eq_nil_of_le (by omega), List.append_nil]
theorem mix_get {xs ys : List Cell} {k : Nat} (h : xs.length ≤ ys.length) (hk : k < xs.length) : (mix xs ys k).getD k Cell.zero = xs.getD k Cell.zero := by
  have hl : ((joinC xs ys).take k).length = k := by rw [List.length_take, joinC_len h]; omega
  simp only [mix, List.getD]
  rw [List.getElem?_append_right (by omega), hl, Nat.sub_self, List.getElem?_drop, Nat.add_zero]
theorem mix_next {xs ys : List Cell} {k : Nat} (h : xs.length ≤ ys.length) (hk : k < xs.length) : (mix xs ys k).set k (joinP (xs.getD k Cell.zero) (ys.getD k Cell.zero)) = mix xs ys (k + 1) := by
  have hl : ((joinC xs ys).take k).length = k := by rw [List.length_take, joinC_len h]; omega
  have hj : (joinC xs ys)[k]? = some (joinP (xs.getD k Cell.zero) (ys.getD k Cell.zero)) := by
    simp only [joinC, List.getElem?_zipWith, List.getElem?_eq_getElem hk, List.getElem?_eq_getElem (show k < ys.length by omega), List.getD, Option.getD_some]
  apply List.ext_getElem?
  intro i
  rw [List.getElem?_set]
  have hml := mix_len h (Nat.le_of_lt hk)
  by_cases hi : k = i
  · subst hi
    rw [if_pos rfl, if_pos (by omega)]
    simp only [mix]
    rw [List.getElem?_append_left (by rw [List.length_take, joinC_len h]; omega), List.getElem?_take, if_pos (by omega), hj]
  · rw [if_neg hi]
    simp only [mix]
    by_cases hlt : i < k
    · rw [List.getElem?_append_left (by omega), List.getElem?_append_left (by rw [List.length_take, joinC_len h]; omega), List.getElem?_take, List.getElem?_take, if_pos hlt, if_pos (by omega)]
    · have hl1 : ((joinC xs ys).take (k + 1)).length = k + 1 := by rw [List.length_take, joinC_len h]; omega
      rw [List.getElem?_append_right (by omega), List.getElem?_append_right (by omega), hl, hl1, List.getElem?_drop, List.getElem?_drop]
      congr 1; omega
theorem set_same {α : Type} {xs : List α} {k : Nat} {z : α} (hk : k < xs.length) : xs.set k (xs.getD k z) = xs := by
  apply List.ext_getElem?
  intro i
  rw [List.getElem?_set]
  by_cases h : k = i
  · subst h
    rw [if_pos rfl, if_pos hk, List.getD, List.getElem?_eq_getElem hk, Option.getD_some]
  · rw [if_neg h]
theorem mix_keep {xs ys : List Cell} {k : Nat} (h : xs.length ≤ ys.length) (hk : k < xs.length) (hne : xs.getD k Cell.zero ≠ Cell.zero) : mix xs ys k = mix xs ys (k + 1) := by
  rw [← mix_next h hk, joinP, if_neg hne, ← mix_get h hk (ys := ys), set_same (by rw [mix_len h (by omega)]; exact hk)]
theorem allLen_enc (xs : List Cell) : AllLen 3 (xs.map Cell.enc) := fun y hy => by
  obtain ⟨c, _, rfl⟩ := List.mem_map.1 hy
  rfl

theorem join_ok (xs ys : List Cell) (hle : xs.length ≤ ys.length) (hb : xs.length * 16 ≤ 140737488355328) : Ok Try.prog E 42 [.c (cells xs), .c (cells ys)] (.fr 57 ((joinC xs ys).map Cell.enc)) := by
  refine ok_of_vc (L := []) (ts := [4]) envOK mixed Try.func42 rfl (by kernel_rfl) rfl (by kernel_rfl) rfl fun hl => ?_
  simp only [Try.f42, VL, VB, BEq.rfl, V1, V2, V3, V4, V5, V6, V7, V8, V9, V10, VE, Nat.reduceBEq, Nat.reduceAdd, Nat.reduceSub, Nat.reduceMul, Nat.reduceLeDiff, Nat.reduceLT, Nat.reduceEqDiff, Int.reduceBEq, Int.reduceBNe, Int.reduceLT, Int.reduceLE, Int.reduceAdd, Int.reduceSub, Int.reduceMul]
  refine ⟨⟨by simpa using hb, allLen_enc xs⟩, ?_⟩
  refine LoopVC.mk (Y := Nat) (fun k => k ≤ xs.length) (fun k => ⟨[(1, .c (.sl (ys.map Cell.enc))), (5, .osl 8 1), (11, .osl 8 1), (12, .c (.sc (.int .i64 xs.length))), (13, .c (.sc (.int .i64 k)))], [(8, .arr 57 1 ((mix xs ys k).map Cell.enc))]⟩) (fun k => xs.length - k) ⟨0, Enter.id ?_, by omega⟩ ?_
  · simp only [mix_zero, VL, VB, BEq.rfl, V1, V2, V3, V4, V5, V6, V7, V8, V9, V10, VE, Nat.reduceBEq, Nat.reduceAdd, Nat.reduceSub, Nat.reduceMul, Nat.reduceLeDiff, Nat.reduceLT, Nat.reduceEqDiff, Int.reduceBEq, Int.reduceBNe, Int.reduceLT, Int.reduceLE, Int.reduceAdd, Int.reduceSub, Int.reduceMul]
    rfl
  intro k hk
  simp only [VL, VB, BEq.rfl, V1, V2, V3, V4, V5, V6, V7, V8, V9, V10, VE, Nat.reduceBEq, Nat.reduceAdd, Nat.reduceSub, Nat.reduceMul, Nat.reduceLeDiff, Nat.reduceLT, Nat.reduceEqDiff, Int.reduceBEq, Int.reduceBNe, Int.reduceLT, Int.reduceLE, Int.reduceAdd, Int.reduceSub, Int.reduceMul]
  refine guardB.mk (fun h => ?_) (fun h => ?_)
  · have hk' : k < xs.length := by simpa using h
    have hm := mix_len hle hk
    have hky : k < ys.length := by omega
    have hx : xs.length ≤ 9223372036854775807 := by omega
    obtain ⟨c, hc⟩ : ∃ c, xs.getD k Cell.zero = c := ⟨_, rfl⟩
    obtain ⟨d, hd⟩ : ∃ d, ys.getD k Cell.zero = d := ⟨_, rfl⟩
    have hmc : (mix xs ys k).getD k Cell.zero = c := by rw [mix_get hle hk', hc]
    have hwrap : IntKind.i64.wrap ((k : Int) + 1) = ((k + 1 : Nat) : Int) := by rw [wrap_of (by omega) (by omega)]; rfl
    simp only [getD_enc, hk', hky, hm, hmc, hd, hwrap, enc_def, cell_beq, zero_beq, VL, VB, BEq.rfl, V1, V2, V3, V4, V5, V6, V7, V8, V9, V10, VE, Nat.reduceBEq, Nat.reduceAdd, Nat.reduceSub, Nat.reduceMul, Nat.reduceLeDiff, Nat.reduceLT, Nat.reduceEqDiff, Int.reduceBEq, Int.reduceBNe, Int.reduceLT, Int.reduceLE, Int.reduceAdd, Int.reduceSub, Int.reduceMul]
    refine ⟨Int.natCast_nonneg k, ?_⟩
    refine guardB.mk (fun h2 => ?_) (fun h2 => ?_) <;> simp only [h2, getD_enc, hk', hky, hm, hmc, hd, hwrap, enc_def, cell_beq, zero_beq, VL, VB, BEq.rfl, V1, V2, V3, V4, V5, V6, V7, V8, V9, V10, VE, Nat.reduceBEq, Nat.reduceAdd, Nat.reduceSub, Nat.reduceMul, Nat.reduceLeDiff, Nat.reduceLT, Nat.reduceEqDiff, Int.reduceBEq, Int.reduceBNe, Int.reduceLT, Int.reduceLE, Int.reduceAdd, Int.reduceSub, Int.reduceMul]
    · refine ⟨Int.natCast_nonneg k, Int.natCast_nonneg k, k + 1, Enter.id ?_, by omega, by show xs.length - (k + 1) < xs.length - k; omega⟩
      simp only [VL, VB, BEq.rfl, V1, V2, V3, V4, V5, V6, V7, V8, V9, V10, VE, Nat.reduceBEq, Nat.reduceAdd, Nat.reduceSub, Nat.reduceMul, Nat.reduceLeDiff, Nat.reduceLT, Nat.reduceEqDiff, Int.reduceBEq, Int.reduceBNe, Int.reduceLT, Int.reduceLE, Int.reduceAdd, Int.reduceSub, Int.reduceMul]
      have hn := mix_next hle hk'
      rw [hc, hd, joinP, if_pos (by simpa using h2)] at hn
      rw [← hn, List.map_set]
      simp only [enc_def, VL, VB, BEq.rfl, V1, V2, V3, V4, V5, V6, V7, V8, V9, V10, VE, Nat.reduceBEq, Nat.reduceAdd, Nat.reduceSub, Nat.reduceMul, Nat.reduceLeDiff, Nat.reduceLT, Nat.reduceEqDiff, Int.reduceBEq, Int.reduceBNe, Int.reduceLT, Int.reduceLE, Int.reduceAdd, Int.reduceSub, Int.reduceMul]
    · refine ⟨k + 1, Enter.id ?_, by omega, by show xs.length - (k + 1) < xs.length - k; omega⟩
      simp only [VL, VB, BEq.rfl, V1, V2, V3, V4, V5, V6, V7, V8, V9, V10, VE, Nat.reduceBEq, Nat.reduceAdd, Nat.reduceSub, Nat.reduceMul, Nat.reduceLeDiff, Nat.reduceLT, Nat.reduceEqDiff, Int.reduceBEq, Int.reduceBNe, Int.reduceLT, Int.reduceLE, Int.reduceAdd, Int.reduceSub, Int.reduceMul]
      rw [mix_keep hle hk' (by rw [hc]; simpa using h2)]
      exact ⟨⟨rfl, rfl⟩, rfl⟩
  · simp only [VL, VB, BEq.rfl, V1, V2, V3, V4, V5, V6, V7, V8, V9, V10, VE, Nat.reduceBEq, Nat.reduceAdd, Nat.reduceSub, Nat.reduceMul, Nat.reduceLeDiff, Nat.reduceLT, Nat.reduceEqDiff, Int.reduceBEq, Int.reduceBNe, Int.reduceLT, Int.reduceLE, Int.reduceAdd, Int.reduceSub, Int.reduceMul]
    rw [mix_all hle (by simpa using h)]

end Go.Cp
end

section
set_option linter.unusedVariables false
set_option linter.unusedSimpArgs false
set_option maxHeartbeats 4000000
set_option maxRecDepth 10000
namespace Go.Cp
open Go Go.Proofs Go.Vx

def bitZ (p : Int) (f : Nat) : Bool := decide (bits .and .u32 (p.fdiv (2 ^ (min f 32))) 1 = 1)
def badF (p m : Int) (f : Nat) : Bool := (bitZ p f && bitZ m f) || ((bitZ p f || bitZ m f) && decide (24 ≤ f))
def validR (p m : Int) : Bool := (List.range 32).all fun f => !badF p m f

theorem range_getD {n k : Nat} (h : k < n) : (List.range n).getD k 0 = k := by simp [List.getD, h]

theorem rvalid_ok (p m : Int) : Ok Try.prog E 55 [.ag (sound p m)] (.c (.sc (.bool (validR p m)))) := by
  refine ok_of_vc (L := []) (ts := [2]) envOK mixed Try.func55 rfl (by kernel_rfl) rfl (by kernel_rfl) rfl fun hl => ?_
  simp only [Try.f55, sound, VL, VB, BEq.rfl, V1, V2, V3, V4, V5, V6, V7, V8, V9, V10, VE, Nat.reduceBEq, Nat.reduceAdd, Nat.reduceSub, Nat.reduceMul, Nat.reduceLeDiff, Nat.reduceLT, Nat.reduceEqDiff, Int.reduceBEq, Int.reduceBNe, Int.reduceLT, Int.reduceLE, Int.reduceAdd, Int.reduceSub, Int.reduceMul]
  refine LoopVC.mk (Y := Nat) (fun k => k ≤ 32 ∧ ∀ i < k, ∀ x, (List.range 32)[i]? = some x → (!badF p m x) = true) (fun k => ⟨[(1, .bp 1 0), (3, .c (.sc (.int .i64 k)))], [(1, .cells [.c (.sc (.int .u32 p)), .c (.sc (.int .u32 m))])]⟩) (fun k => 32 - k) ⟨0, Enter.id ?_, by omega, by omega⟩ ?_
  · simp only [VL, VB, BEq.rfl, V1, V2, V3, V4, V5, V6, V7, V8, V9, V10, VE, Nat.reduceBEq, Nat.reduceAdd, Nat.reduceSub, Nat.reduceMul, Nat.reduceLeDiff, Nat.reduceLT, Nat.reduceEqDiff, Int.reduceBEq, Int.reduceBNe, Int.reduceLT, Int.reduceLE, Int.reduceAdd, Int.reduceSub, Int.reduceMul]
    rfl
  rintro k ⟨hk, hpre⟩
  simp only [VL, VB, BEq.rfl, V1, V2, V3, V4, V5, V6, V7, V8, V9, V10, VE, Nat.reduceBEq, Nat.reduceAdd, Nat.reduceSub, Nat.reduceMul, Nat.reduceLeDiff, Nat.reduceLT, Nat.reduceEqDiff, Int.reduceBEq, Int.reduceBNe, Int.reduceLT, Int.reduceLE, Int.reduceAdd, Int.reduceSub, Int.reduceMul]
  refine guardB.mk (fun h => ?_) (fun h => ?_)
  · have hk' : k < 32 := by
      have : (k : Int) < 32 := by simpa using h
      omega
    have hb : ∀ q : Int, (bits .and .u32 (q.fdiv (2 ^ (min k IntKind.u32.bits))) 1 == 1) = bitZ q k := fun q => rfl
    have hwrap : IntKind.i64.wrap ((k : Int) + 1) = ((k + 1 : Nat) : Int) := by rw [wrap_of (by omega) (by omega)]; rfl
    have hge : decide ((24 : Int) ≤ (k : Int)) = decide (24 ≤ k) := by congr 1; exact propext ⟨fun h => by omega, fun h => by omega⟩
    have hno : badF p m k = true → D.sc (Value.bool false) = D.sc (Value.bool (validR p m)) := fun hf => by rw [validR, all_false (k := k) (z := 0) (by rw [List.length_range]; omega) (by rw [range_getD hk', hf]; rfl)]
    have hyes : badF p m k = false → ∀ i < k + 1, ∀ x, (List.range 32)[i]? = some x → (!badF p m x) = true := fun hf => all_next (z := 0) (by rw [List.length_range]; omega) hpre (by rw [range_getD hk', hf]; rfl)
    obtain ⟨x, hx⟩ : ∃ x, bitZ p k = x := ⟨_, rfl⟩
    obtain ⟨y, hy⟩ : ∃ y, bitZ m k = y := ⟨_, rfl⟩
    obtain ⟨z, hz⟩ : ∃ z, decide (24 ≤ k) = z := ⟨_, rfl⟩
    have hbad : badF p m k = ((x && y) || ((x || y) && z)) := by rw [badF, hx, hy, hz]
    simp only [hb, hx, hy, hge, hz, hwrap, VL, VB, BEq.rfl, V1, V2, V3, V4, V5, V6, V7, V8, V9, V10, VE, Nat.reduceBEq, Nat.reduceAdd, Nat.reduceSub, Nat.reduceMul, Nat.reduceLeDiff, Nat.reduceLT, Nat.reduceEqDiff, Int.reduceBEq, Int.reduceBNe, Int.reduceLT, Int.reduceLE, Int.reduceAdd, Int.reduceSub, Int.reduceMul]
    refine ⟨Int.natCast_nonneg k, Int.natCast_nonneg k, ?_⟩
    cases x <;> cases y <;> cases z <;> simp only [hb, hx, hy, hge, hz, hwrap, VL, VB, BEq.rfl, V1, V2, V3, V4, V5, V6, V7, V8, V9, V10, VE, Nat.reduceBEq, Nat.reduceAdd, Nat.reduceSub, Nat.reduceMul, Nat.reduceLeDiff, Nat.reduceLT, Nat.reduceEqDiff, Int.reduceBEq, Int.reduceBNe, Int.reduceLT, Int.reduceLE, Int.reduceAdd, Int.reduceSub, Int.reduceMul]
    all_goals first
      | exact hno hbad
      | (refine ⟨k + 1, Enter.id ?_, ⟨by omega, hyes hbad⟩, by show 32 - (k + 1) < 32 - k; omega⟩
         simp only [VL, VB, BEq.rfl, V1, V2, V3, V4, V5, V6, V7, V8, V9, V10, VE, Nat.reduceBEq, Nat.reduceAdd, Nat.reduceSub, Nat.reduceMul, Nat.reduceLeDiff, Nat.reduceLT, Nat.reduceEqDiff, Int.reduceBEq, Int.reduceBNe, Int.reduceLT, Int.reduceLE, Int.reduceAdd, Int.reduceSub, Int.reduceMul])
  · simp only [VL, VB, BEq.rfl, V1, V2, V3, V4, V5, V6, V7, V8, V9, V10, VE, Nat.reduceBEq, Nat.reduceAdd, Nat.reduceSub, Nat.reduceMul, Nat.reduceLeDiff, Nat.reduceLT, Nat.reduceEqDiff, Int.reduceBEq, Int.reduceBNe, Int.reduceLT, Int.reduceLE, Int.reduceAdd, Int.reduceSub, Int.reduceMul]
    have hk' : ¬ k < 32 := by
      have : ¬ (k : Int) < 32 := by simpa using h
      omega
    rw [validR, all_true (by rw [List.length_range]; exact hk') hpre]

theorem wraps_u32 (n : Int) (h₀ : 0 ≤ n) (h₁ : n < 2 ^ 32) : IntKind.u32.wrap n = n := by rw [IntKind.wrap_u32]; omega
theorem bitZ_nat (a f : Nat) (ha : a < 2 ^ 32) (hf : f < 32) : bitZ (a : Int) f = Nat.testBit a f := by
  have h1 : ((a : Int).fdiv (2 ^ (min f 32))) = ((a / 2 ^ f : Nat) : Int) := by
    rw [Nat.min_eq_left (by omega), Int.fdiv_eq_ediv_of_nonneg _ (by exact_mod_cast Nat.zero_le _)]
    simp
  have hlt : a / 2 ^ f < 2 ^ 32 := Nat.lt_of_le_of_lt (Nat.div_le_self _ _) ha
  have h2 := (bits_nat .u32 32 (by decide) wraps_u32 (a / 2 ^ f) 1 hlt (by decide)).1
  have h2 : bits .and .u32 ((a / 2 ^ f : Nat) : Int) 1 = ((a / 2 ^ f &&& 1 : Nat) : Int) := h2
  rw [bitZ, h1, h2, Nat.and_one_is_mod, Nat.testBit_eq_decide_div_mod_eq]
  congr 1
  exact propext ⟨fun h => by omega, fun h => by omega⟩

theorem valid_same (a b : Nat) (ha : a < 2 ^ 32) (hb : b < 2 ^ 32) : validR a b = validS a b := by
  have hand := (bits_nat .u32 32 (by decide) wraps_u32 a b ha hb).1
  have hor := (bits_nat .u32 32 (by decide) wraps_u32 a b ha hb).2
  rw [Bool.eq_iff_iff]
  simp only [validR, validS, List.all_eq_true, List.mem_range, Bool.not_eq_true', Bool.and_eq_true, decide_eq_true_eq, hand, hor]
  have hbit : ∀ f, f < 32 → badF a b f = ((Nat.testBit a f && Nat.testBit b f) || ((Nat.testBit a f || Nat.testBit b f) && decide (24 ≤ f))) := fun f hf => by rw [badF, bitZ_nat a f ha hf, bitZ_nat b f hb hf]
  constructor
  · intro h
    have h0 : a &&& b = 0 := by
      apply Nat.eq_of_testBit_eq
      intro f
      rw [Nat.testBit_and, Nat.zero_testBit]
      by_cases hf : f < 32
      · have := h f hf
        rw [hbit f hf] at this
        simp only [Bool.or_eq_false_iff] at this
        exact this.1
      · rw [Nat.testBit_lt_two_pow (Nat.lt_of_lt_of_le ha (Nat.pow_le_pow_right (by decide) (by omega)))]
        rfl
    have h1 : a ||| b < 2 ^ 24 := by
      apply Nat.lt_pow_two_of_testBit
      intro f hf24
      rw [Nat.testBit_or]
      by_cases hf : f < 32
      · have := h f hf
        rw [hbit f hf] at this
        simp only [Bool.or_eq_false_iff, Bool.and_eq_false_iff, decide_eq_false_iff_not] at this
        rcases this.2 with h2 | h2
        · simp only [Bool.or_eq_false_iff]; exact h2
        · exact (h2 hf24).elim
      · rw [Nat.testBit_lt_two_pow (Nat.lt_of_lt_of_le ha (Nat.pow_le_pow_right (by decide) (by omega))), Nat.testBit_lt_two_pow (Nat.lt_of_lt_of_le hb (Nat.pow_le_pow_right (by decide) (by omega)))]
        rfl
    refine ⟨by rw [h0]; rfl, ?_⟩
    have h1' : a ||| b ≤ 16777215 := by
      have : (2 : Nat) ^ 24 = 16777216 := by decide
      omega
    clear h h0 h1 hbit hand hor
    generalize a ||| b = c at h1' ⊢
    omega
  · rintro ⟨h0, h1⟩ f hf
    have h0 : a &&& b = 0 := by exact_mod_cast h0
    have h1 : a ||| b ≤ 16777215 := by
      clear hand hor h0 hbit
      generalize a ||| b = c at h1 ⊢
      omega
    rw [hbit f hf]
    have hb1 : (Nat.testBit a f && Nat.testBit b f) = false := by rw [← Nat.testBit_and, h0, Nat.zero_testBit]
    rw [hb1, Bool.false_or]
    by_cases hf24 : 24 ≤ f
    · have : Nat.testBit (a ||| b) f = false := by
        apply Nat.testBit_lt_two_pow
        have h2 : (2 : Nat) ^ 24 ≤ 2 ^ f := Nat.pow_le_pow_right (by decide) hf24
        have h3 : (2 : Nat) ^ 24 = 16777216 := by decide
        omega
      rw [Nat.testBit_or] at this
      rw [this, Bool.false_and]
    · rw [decide_eq_false hf24, Bool.and_false]

end Go.Cp
end

section
set_option linter.unusedVariables false
set_option linter.unusedSimpArgs false
set_option maxHeartbeats 4000000
set_option maxRecDepth 10000
namespace Go.Cp
open Go Go.Proofs Go.Vx

def validD (c : Cell) : Bool := !(decide (c.kind < 0) || (decide (2 < c.kind) || !validR c.plus c.minus)) && !(!decide (c.kind = 2) && !decide (c.plus = 0 ∧ c.minus = 0))
theorem pair_beq (x y : Int) : (x == 0 && y == 0) = decide (x = 0 ∧ y = 0) := by
  rw [Bool.decide_and]; rfl

theorem rcells_ok (xs : List Cell) : Ok Try.prog E 54 [.c (cells xs)] (.c (.sc (.bool (xs.all validD)))) := by
  refine ok_of_vc (L := []) (ts := [2]) envOK mixed Try.func54 rfl (by kernel_rfl) rfl (by kernel_rfl) rfl fun hl => ?_
  have hx := len_of (hl _ (List.mem_cons_self ..))
  rw [List.length_map] at hx
  simp only [Try.f54, VL, VB, BEq.rfl, V1, V2, V3, V4, V5, V6, V7, V8, V9, V10, VE, Nat.reduceBEq, Nat.reduceAdd, Nat.reduceSub, Nat.reduceMul, Nat.reduceLeDiff, Nat.reduceLT, Nat.reduceEqDiff, Int.reduceBEq, Int.reduceBNe, Int.reduceLT, Int.reduceLE, Int.reduceAdd, Int.reduceSub, Int.reduceMul]
  refine LoopVC.mk (Y := Nat) (fun k => k ≤ xs.length ∧ ∀ i < k, ∀ x, xs[i]? = some x → validD x = true) (fun k => ⟨[(0, .c (.sl (xs.map Cell.enc))), (3, .c (.sc (.int .i64 k)))], []⟩) (fun k => xs.length - k) ⟨0, Enter.id ?_, by omega, by omega⟩ ?_
  · simp only [VL, VB, BEq.rfl, V1, V2, V3, V4, V5, V6, V7, V8, V9, V10, VE, Nat.reduceBEq, Nat.reduceAdd, Nat.reduceSub, Nat.reduceMul, Nat.reduceLeDiff, Nat.reduceLT, Nat.reduceEqDiff, Int.reduceBEq, Int.reduceBNe, Int.reduceLT, Int.reduceLE, Int.reduceAdd, Int.reduceSub, Int.reduceMul]
    rfl
  rintro k ⟨hk, hpre⟩
  simp only [VL, VB, BEq.rfl, V1, V2, V3, V4, V5, V6, V7, V8, V9, V10, VE, Nat.reduceBEq, Nat.reduceAdd, Nat.reduceSub, Nat.reduceMul, Nat.reduceLeDiff, Nat.reduceLT, Nat.reduceEqDiff, Int.reduceBEq, Int.reduceBNe, Int.reduceLT, Int.reduceLE, Int.reduceAdd, Int.reduceSub, Int.reduceMul]
  refine guardB.mk (fun h => ?_) (fun h => ?_)
  · have hk' : k < xs.length := by simpa using h
    obtain ⟨c, hc⟩ : ∃ c, xs.getD k Cell.zero = c := ⟨_, rfl⟩
    have hwrap : IntKind.i64.wrap ((k : Int) + 1) = ((k + 1 : Nat) : Int) := by rw [wrap_of (by omega) (by omega)]; rfl
    have hno : validD c = false → D.sc (Value.bool false) = D.sc (Value.bool (xs.all validD)) := fun hf => by rw [all_false (z := Cell.zero) hk' (by rw [hc]; exact hf)]
    have hyes : validD c = true → (∀ i < k + 1, ∀ x, xs[i]? = some x → validD x = true) := fun hf => all_next (z := Cell.zero) hk' hpre (by rw [hc]; exact hf)
    simp only [getD_enc, hk', hc, hwrap, enc_def, cell_beq, pair_beq, VL, VB, BEq.rfl, V1, V2, V3, V4, V5, V6, V7, V8, V9, V10, VE, Nat.reduceBEq, Nat.reduceAdd, Nat.reduceSub, Nat.reduceMul, Nat.reduceLeDiff, Nat.reduceLT, Nat.reduceEqDiff, Int.reduceBEq, Int.reduceBNe, Int.reduceLT, Int.reduceLE, Int.reduceAdd, Int.reduceSub, Int.reduceMul]
    refine ⟨Int.natCast_nonneg k, ?_⟩
    refine guardB.mk (fun h2 => ?_) (fun h2 => ?_) <;> simp only [h2, getD_enc, hk', hc, hwrap, enc_def, cell_beq, pair_beq, VL, VB, BEq.rfl, V1, V2, V3, V4, V5, V6, V7, V8, V9, V10, VE, Nat.reduceBEq, Nat.reduceAdd, Nat.reduceSub, Nat.reduceMul, Nat.reduceLeDiff, Nat.reduceLT, Nat.reduceEqDiff, Int.reduceBEq, Int.reduceBNe, Int.reduceLT, Int.reduceLE, Int.reduceAdd, Int.reduceSub, Int.reduceMul]
    · exact hno (by simp_all [validD])
    · refine guardB.mk (fun h3 => ?_) (fun h3 => ?_) <;> simp only [h3, getD_enc, hk', hc, hwrap, enc_def, cell_beq, pair_beq, VL, VB, BEq.rfl, V1, V2, V3, V4, V5, V6, V7, V8, V9, V10, VE, Nat.reduceBEq, Nat.reduceAdd, Nat.reduceSub, Nat.reduceMul, Nat.reduceLeDiff, Nat.reduceLT, Nat.reduceEqDiff, Int.reduceBEq, Int.reduceBNe, Int.reduceLT, Int.reduceLE, Int.reduceAdd, Int.reduceSub, Int.reduceMul]
      · exact hno (by simp_all [validD])
      · refine CallX.mk (rvalid_ok _ _) rfl ?_
        simp only [getD_enc, hk', hc, hwrap, enc_def, cell_beq, pair_beq, VL, VB, BEq.rfl, V1, V2, V3, V4, V5, V6, V7, V8, V9, V10, VE, Nat.reduceBEq, Nat.reduceAdd, Nat.reduceSub, Nat.reduceMul, Nat.reduceLeDiff, Nat.reduceLT, Nat.reduceEqDiff, Int.reduceBEq, Int.reduceBNe, Int.reduceLT, Int.reduceLE, Int.reduceAdd, Int.reduceSub, Int.reduceMul]
        refine guardB.mk (fun h4 => ?_) (fun h4 => ?_) <;> simp only [h4, getD_enc, hk', hc, hwrap, enc_def, cell_beq, pair_beq, VL, VB, BEq.rfl, V1, V2, V3, V4, V5, V6, V7, V8, V9, V10, VE, Nat.reduceBEq, Nat.reduceAdd, Nat.reduceSub, Nat.reduceMul, Nat.reduceLeDiff, Nat.reduceLT, Nat.reduceEqDiff, Int.reduceBEq, Int.reduceBNe, Int.reduceLT, Int.reduceLE, Int.reduceAdd, Int.reduceSub, Int.reduceMul]
        · exact hno (by simp_all [validD])
        · refine guardB.mk (fun h5 => ?_) (fun h5 => ?_) <;> simp only [h5, getD_enc, hk', hc, hwrap, enc_def, cell_beq, pair_beq, VL, VB, BEq.rfl, V1, V2, V3, V4, V5, V6, V7, V8, V9, V10, VE, Nat.reduceBEq, Nat.reduceAdd, Nat.reduceSub, Nat.reduceMul, Nat.reduceLeDiff, Nat.reduceLT, Nat.reduceEqDiff, Int.reduceBEq, Int.reduceBNe, Int.reduceLT, Int.reduceLE, Int.reduceAdd, Int.reduceSub, Int.reduceMul]
          · refine guardB.mk (fun h6 => ?_) (fun h6 => ?_) <;> simp only [h6, getD_enc, hk', hc, hwrap, enc_def, cell_beq, pair_beq, VL, VB, BEq.rfl, V1, V2, V3, V4, V5, V6, V7, V8, V9, V10, VE, Nat.reduceBEq, Nat.reduceAdd, Nat.reduceSub, Nat.reduceMul, Nat.reduceLeDiff, Nat.reduceLT, Nat.reduceEqDiff, Int.reduceBEq, Int.reduceBNe, Int.reduceLT, Int.reduceLE, Int.reduceAdd, Int.reduceSub, Int.reduceMul]
            · exact hno (by simp_all [validD]; try omega)
            · refine ⟨k + 1, Enter.id (by simp only [VL, VB, BEq.rfl, V1, V2, V3, V4, V5, V6, V7, V8, V9, V10, VE, Nat.reduceBEq, Nat.reduceAdd, Nat.reduceSub, Nat.reduceMul, Nat.reduceLeDiff, Nat.reduceLT, Nat.reduceEqDiff, Int.reduceBEq, Int.reduceBNe, Int.reduceLT, Int.reduceLE, Int.reduceAdd, Int.reduceSub, Int.reduceMul]), ⟨by omega, hyes (by simp_all [validD])⟩, by show xs.length - (k + 1) < xs.length - k; omega⟩
          · refine ⟨k + 1, Enter.id (by simp only [VL, VB, BEq.rfl, V1, V2, V3, V4, V5, V6, V7, V8, V9, V10, VE, Nat.reduceBEq, Nat.reduceAdd, Nat.reduceSub, Nat.reduceMul, Nat.reduceLeDiff, Nat.reduceLT, Nat.reduceEqDiff, Int.reduceBEq, Int.reduceBNe, Int.reduceLT, Int.reduceLE, Int.reduceAdd, Int.reduceSub, Int.reduceMul]), ⟨by omega, hyes (by simp_all [validD])⟩, by show xs.length - (k + 1) < xs.length - k; omega⟩
  · simp only [VL, VB, BEq.rfl, V1, V2, V3, V4, V5, V6, V7, V8, V9, V10, VE, Nat.reduceBEq, Nat.reduceAdd, Nat.reduceSub, Nat.reduceMul, Nat.reduceLeDiff, Nat.reduceLT, Nat.reduceEqDiff, Int.reduceBEq, Int.reduceBNe, Int.reduceLT, Int.reduceLE, Int.reduceAdd, Int.reduceSub, Int.reduceMul]
    have hk' : ¬ k < xs.length := by simpa using h
    rw [all_true hk' hpre]

/-- what a cell's numbers are in the machine -/
def Cell.In (c : Cell) : Prop := 0 ≤ c.plus ∧ c.plus < 4294967296 ∧ 0 ≤ c.minus ∧ c.minus < 4294967296
theorem validCD {c : Cell} (h : c.In) : validD c = validC c := by
  obtain ⟨h1, h2, h3, h4⟩ := h
  obtain ⟨a, ha⟩ := Int.eq_ofNat_of_zero_le h1
  obtain ⟨b, hb⟩ := Int.eq_ofNat_of_zero_le h3
  have hv : validR c.plus c.minus = validS c.plus c.minus := by
    rw [ha, hb]
    exact valid_same a b (by omega) (by omega)
  have hz : c.plus = 0 → c.minus = 0 → validS c.plus c.minus = true := fun e1 e2 => by
    rw [e1, e2]; rfl
  unfold validD validC
  rw [hv]
  obtain ⟨kd, p, m⟩ := c
  simp only [] at hz ⊢
  by_cases hk2 : kd = 2
  · subst hk2
    simp
  · rw [if_neg hk2]
    by_cases hpm : p = 0 ∧ m = 0
    · obtain ⟨rfl, rfl⟩ := hpm
      rw [hz rfl rfl]
      have hkd : (decide (kd < 0) || decide (2 < kd)) = !(decide (kd = 0) || decide (kd = 1)) := by
        rw [Bool.eq_iff_iff]
        simp
        omega
      simp only [Bool.not_true, Bool.or_false, decide_true, Bool.and_true, and_self, Bool.not_false, Bool.and_false, hkd, Bool.not_not]
    · simp [hpm, hk2]
theorem valid_all {xs : List Cell} (h : ∀ c ∈ xs, c.In) : xs.all validD = xs.all validC := by
  rw [Bool.eq_iff_iff, List.all_eq_true, List.all_eq_true]
  exact ⟨fun hh c hc => by rw [← validCD (h c hc)]; exact hh c hc, fun hh c hc => by rw [validCD (h c hc)]; exact hh c hc⟩

end Go.Cp
end

section
set_option linter.unusedVariables false
set_option linter.unusedSimpArgs false
set_option maxHeartbeats 4000000
set_option maxRecDepth 10000
namespace Go.Cp
open Go Go.Proofs Go.Vx

def joinQ (x y : Cell) : Cell := if x.kind = 0 then y else x
def joinR (xs ys : List Cell) : List Cell := List.zipWith joinQ xs ys
theorem joinR_len {xs ys : List Cell} (h : xs.length ≤ ys.length) : (joinR xs ys).length = xs.length := by
  simp only [joinR, List.length_zipWith]; omega
theorem joinR_next {xs ys : List Cell} {k : Nat} (h : xs.length ≤ ys.length) (hk : k < xs.length) : (joinR xs ys).take k ++ [joinQ (xs.getD k Cell.zero) (ys.getD k Cell.zero)] = (joinR xs ys).take (k + 1) := by
  have hl : k < (joinR xs ys).length := by rw [joinR_len h]; exact hk
  rw [List.take_add_one, List.getElem?_eq_getElem hl]
  congr 1
  simp only [Option.toList_some, List.cons.injEq, and_true]
  simp only [joinR, List.getElem_zipWith, List.getD, List.getElem?_eq_getElem hk, List.getElem?_eq_getElem (show k < ys.length by omega), Option.getD_some]
theorem allLen_one {n : Nat} {x : List D} (h : x.length = n) : AllLen n [x] := fun y hy => by
  simp only [List.mem_singleton] at hy
  subst hy; exact h

theorem rjoin_ok (xs ys : List Cell) (hle : xs.length ≤ ys.length) (hb : xs.length * 16 ≤ 140737488355328) : Ok Try.prog E 43 [.c (cells xs), .c (cells ys)] (.fr 57 ((joinR xs ys).map Cell.enc)) := by
  refine ok_of_vc (L := []) (ts := [4]) envOK mixed Try.func43 rfl (by kernel_rfl) rfl (by kernel_rfl) rfl fun hl => ?_
  simp only [Try.f43, VL, VB, BEq.rfl, V1, V2, V3, V4, V5, V6, V7, V8, V9, V10, VE, Nat.reduceBEq, Nat.reduceAdd, Nat.reduceSub, Nat.reduceMul, Nat.reduceLeDiff, Nat.reduceLT, Nat.reduceEqDiff, Int.reduceBEq, Int.reduceBNe, Int.reduceLT, Int.reduceLE, Int.reduceAdd, Int.reduceSub, Int.reduceMul]
  refine LoopVC.mk (Y := Nat) (fun k => k ≤ xs.length) (fun k => ⟨[(0, .c (.sl (xs.map Cell.enc))), (1, .c (.sl (ys.map Cell.enc))), (5, .osl 1000 0), (6, .c (.sc (.int .i64 k)))], [(1000, .arr 57 0 (((joinR xs ys).take k).map Cell.enc))]⟩) (fun k => xs.length - k) ⟨0, Enter.mk [(5, (1000, 57))] [] [] ?_, by omega⟩ ?_
  · simp only [VL, VB, BEq.rfl, V1, V2, V3, V4, V5, V6, V7, V8, V9, V10, VE, Nat.reduceBEq, Nat.reduceAdd, Nat.reduceSub, Nat.reduceMul, Nat.reduceLeDiff, Nat.reduceLT, Nat.reduceEqDiff, Int.reduceBEq, Int.reduceBNe, Int.reduceLT, Int.reduceLE, Int.reduceAdd, Int.reduceSub, Int.reduceMul, Option.isSome_some]
    rfl
  intro k hk
  simp only [VL, VB, BEq.rfl, V1, V2, V3, V4, V5, V6, V7, V8, V9, V10, VE, Nat.reduceBEq, Nat.reduceAdd, Nat.reduceSub, Nat.reduceMul, Nat.reduceLeDiff, Nat.reduceLT, Nat.reduceEqDiff, Int.reduceBEq, Int.reduceBNe, Int.reduceLT, Int.reduceLE, Int.reduceAdd, Int.reduceSub, Int.reduceMul]
  refine guardB.mk (fun h => ?_) (fun h => ?_)
  · have hk' : k < xs.length := by simpa using h
    have hky : k < ys.length := by omega
    have hlen : ((joinR xs ys).take k).length = k := by rw [List.length_take, joinR_len hle]; omega
    obtain ⟨c, hc⟩ : ∃ c, xs.getD k Cell.zero = c := ⟨_, rfl⟩
    obtain ⟨d, hd⟩ : ∃ d, ys.getD k Cell.zero = d := ⟨_, rfl⟩
    have hn := joinR_next hle hk'
    rw [hc, hd] at hn
    have hwrap : IntKind.i64.wrap ((k : Int) + 1) = ((k + 1 : Nat) : Int) := by rw [wrap_of (by omega) (by omega)]; rfl
    simp only [getD_enc, hk', hky, hc, hd, hlen, hwrap, enc_def, cell_beq, zero_beq, int_beq, VL, VB, BEq.rfl, V1, V2, V3, V4, V5, V6, V7, V8, V9, V10, VE, Nat.reduceBEq, Nat.reduceAdd, Nat.reduceSub, Nat.reduceMul, Nat.reduceLeDiff, Nat.reduceLT, Nat.reduceEqDiff, Int.reduceBEq, Int.reduceBNe, Int.reduceLT, Int.reduceLE, Int.reduceAdd, Int.reduceSub, Int.reduceMul]
    refine ⟨Int.natCast_nonneg k, ?_⟩
    refine guardB.mk (fun h2 => ?_) (fun h2 => ?_) <;> simp only [h2, getD_enc, hk', hky, hc, hd, hlen, hwrap, enc_def, cell_beq, zero_beq, int_beq, VL, VB, BEq.rfl, V1, V2, V3, V4, V5, V6, V7, V8, V9, V10, VE, Nat.reduceBEq, Nat.reduceAdd, Nat.reduceSub, Nat.reduceMul, Nat.reduceLeDiff, Nat.reduceLT, Nat.reduceEqDiff, Int.reduceBEq, Int.reduceBNe, Int.reduceLT, Int.reduceLE, Int.reduceAdd, Int.reduceSub, Int.reduceMul]
    · rw [joinQ, if_pos (by simpa using h2)] at hn
      refine ⟨Int.natCast_nonneg k, ⟨by omega, allLen_one rfl⟩, k + 1, Enter.id ?_, by omega, by show xs.length - (k + 1) < xs.length - k; omega⟩
      simp only [← hn, List.map_append, getD_enc, hk', hky, hc, hd, hlen, hwrap, enc_def, cell_beq, zero_beq, int_beq, VL, VB, BEq.rfl, V1, V2, V3, V4, V5, V6, V7, V8, V9, V10, VE, Nat.reduceBEq, Nat.reduceAdd, Nat.reduceSub, Nat.reduceMul, Nat.reduceLeDiff, Nat.reduceLT, Nat.reduceEqDiff, Int.reduceBEq, Int.reduceBNe, Int.reduceLT, Int.reduceLE, Int.reduceAdd, Int.reduceSub, Int.reduceMul]
    · rw [joinQ, if_neg (by simpa using h2)] at hn
      refine ⟨Int.natCast_nonneg k, ⟨by omega, allLen_one rfl⟩, k + 1, Enter.id ?_, by omega, by show xs.length - (k + 1) < xs.length - k; omega⟩
      simp only [← hn, List.map_append, getD_enc, hk', hky, hc, hd, hlen, hwrap, enc_def, cell_beq, zero_beq, int_beq, VL, VB, BEq.rfl, V1, V2, V3, V4, V5, V6, V7, V8, V9, V10, VE, Nat.reduceBEq, Nat.reduceAdd, Nat.reduceSub, Nat.reduceMul, Nat.reduceLeDiff, Nat.reduceLT, Nat.reduceEqDiff, Int.reduceBEq, Int.reduceBNe, Int.reduceLT, Int.reduceLE, Int.reduceAdd, Int.reduceSub, Int.reduceMul]
  · simp only [VL, VB, BEq.rfl, V1, V2, V3, V4, V5, V6, V7, V8, V9, V10, VE, Nat.reduceBEq, Nat.reduceAdd, Nat.reduceSub, Nat.reduceMul, Nat.reduceLeDiff, Nat.reduceLT, Nat.reduceEqDiff, Int.reduceBEq, Int.reduceBNe, Int.reduceLT, Int.reduceLE, Int.reduceAdd, Int.reduceSub, Int.reduceMul]
    have hk' : ¬ k < xs.length := by simpa using h
    rw [List.take_of_length_le (by rw [joinR_len hle]; omega)]

theorem two_ok (xs ys : List Cell) : Ok Try.prog E 40 [.c (cells xs), .c (cells ys)] (.c (.sc (.bool (xs.all validD && ys.all validD && decide (xs.length = ys.length))))) := by
  refine ok_of_vc (L := []) (ts := [4]) envOK mixed Try.func40 rfl (by kernel_rfl) rfl (by kernel_rfl) rfl fun hl => ?_
  have hq : ((xs.length : Int) == (ys.length : Int)) = decide (xs.length = ys.length) := by
    rw [int_beq]; congr 1; exact propext ⟨fun h => by omega, fun h => by omega⟩
  obtain ⟨p, hp⟩ : ∃ p, xs.all validD = p := ⟨_, rfl⟩
  obtain ⟨q, hq2⟩ : ∃ q, ys.all validD = q := ⟨_, rfl⟩
  simp only [Try.f40, VL, VB, BEq.rfl, V1, V2, V3, V4, V5, V6, V7, V8, V9, V10, VE, Nat.reduceBEq, Nat.reduceAdd, Nat.reduceSub, Nat.reduceMul, Nat.reduceLeDiff, Nat.reduceLT, Nat.reduceEqDiff, Int.reduceBEq, Int.reduceBNe, Int.reduceLT, Int.reduceLE, Int.reduceAdd, Int.reduceSub, Int.reduceMul]
  refine CallX.mk (rcells_ok xs) rfl ?_
  cases p <;> cases q <;> simp only [hp, hq, hq2, VL, VB, BEq.rfl, V1, V2, V3, V4, V5, V6, V7, V8, V9, V10, VE, Nat.reduceBEq, Nat.reduceAdd, Nat.reduceSub, Nat.reduceMul, Nat.reduceLeDiff, Nat.reduceLT, Nat.reduceEqDiff, Int.reduceBEq, Int.reduceBNe, Int.reduceLT, Int.reduceLE, Int.reduceAdd, Int.reduceSub, Int.reduceMul]
  all_goals (refine CallX.mk (rcells_ok ys) rfl ?_; simp only [hp, hq, hq2, VL, VB, BEq.rfl, V1, V2, V3, V4, V5, V6, V7, V8, V9, V10, VE, Nat.reduceBEq, Nat.reduceAdd, Nat.reduceSub, Nat.reduceMul, Nat.reduceLeDiff, Nat.reduceLT, Nat.reduceEqDiff, Int.reduceBEq, Int.reduceBNe, Int.reduceLT, Int.reduceLE, Int.reduceAdd, Int.reduceSub, Int.reduceMul])

end Go.Cp
end

section
set_option linter.unusedVariables false
set_option linter.unusedSimpArgs false
set_option maxHeartbeats 4000000
set_option maxRecDepth 10000
namespace Go.Cp
open Go Go.Proofs Go.Vx

def bv (b : Bool) : AV := .c (.sc (.bool b))
def nv (n : Int) : AV := .c (.sc (.int .i64 n))
def okTwo (xs ys : List Cell) : Bool := xs.all validC && ys.all validC && decide (xs.length = ys.length)
def okTwoR (xs ys : List Cell) : Bool := xs.all validD && ys.all validD && decide (xs.length = ys.length)
theorem len_eq (xs ys : List Cell) : ((xs.length : Int) == (ys.length : Int)) = decide (xs.length = ys.length) := by
  rw [int_beq]; congr 1; exact propext ⟨fun h => by omega, fun h => by omega⟩
theorem len_ne (xs ys : List Cell) : ((xs.length : Int) != (ys.length : Int)) = !decide (xs.length = ys.length) := by
  rw [bne, len_eq]

theorem compatible_ok (xs ys : List Cell) : Ok Try.prog E 13 [.c (cells xs), .c (cells ys)] (.tp [bv (okTwo xs ys && fitC xs ys), nv (if okTwo xs ys then 0 else 2)]) := by
  refine ok_of_vc (L := []) (ts := [4, 5]) envOK mixed Try.func13 rfl (by kernel_rfl) rfl (by kernel_rfl) rfl fun hl => ?_
  obtain ⟨p, hp⟩ : ∃ p, xs.all validC = p := ⟨_, rfl⟩
  obtain ⟨q, hq⟩ : ∃ q, ys.all validC = q := ⟨_, rfl⟩
  simp only [Try.f13, bv, nv, okTwo, VL, VB, BEq.rfl, V1, V2, V3, V4, V5, V6, V7, V8, V9, V10, VE, Nat.reduceBEq, Nat.reduceAdd, Nat.reduceSub, Nat.reduceMul, Nat.reduceLeDiff, Nat.reduceLT, Nat.reduceEqDiff, Int.reduceBEq, Int.reduceBNe, Int.reduceLT, Int.reduceLE, Int.reduceAdd, Int.reduceSub, Int.reduceMul]
  refine CallX.mk (cvalid_ok xs) rfl ?_
  cases p <;> simp only [hp, hq, len_ne, Bool.false_eq_true, if_false, if_true, VL, VB, BEq.rfl, V1, V2, V3, V4, V5, V6, V7, V8, V9, V10, VE, Nat.reduceBEq, Nat.reduceAdd, Nat.reduceSub, Nat.reduceMul, Nat.reduceLeDiff, Nat.reduceLT, Nat.reduceEqDiff, Int.reduceBEq, Int.reduceBNe, Int.reduceLT, Int.reduceLE, Int.reduceAdd, Int.reduceSub, Int.reduceMul]
  refine CallX.mk (cvalid_ok ys) rfl ?_
  cases q <;> simp only [hp, hq, len_ne, Bool.false_eq_true, if_false, if_true, VL, VB, BEq.rfl, V1, V2, V3, V4, V5, V6, V7, V8, V9, V10, VE, Nat.reduceBEq, Nat.reduceAdd, Nat.reduceSub, Nat.reduceMul, Nat.reduceLeDiff, Nat.reduceLT, Nat.reduceEqDiff, Int.reduceBEq, Int.reduceBNe, Int.reduceLT, Int.reduceLE, Int.reduceAdd, Int.reduceSub, Int.reduceMul]
  by_cases hlen : xs.length = ys.length
  · simp only [hlen, hp, hq, len_ne, Bool.false_eq_true, if_false, if_true, VL, VB, BEq.rfl, V1, V2, V3, V4, V5, V6, V7, V8, V9, V10, VE, Nat.reduceBEq, Nat.reduceAdd, Nat.reduceSub, Nat.reduceMul, Nat.reduceLeDiff, Nat.reduceLT, Nat.reduceEqDiff, Int.reduceBEq, Int.reduceBNe, Int.reduceLT, Int.reduceLE, Int.reduceAdd, Int.reduceSub, Int.reduceMul]
    refine CallX.mk (fit_ok xs ys (by omega)) rfl ?_
    simp only [hp, hq, len_ne, Bool.false_eq_true, if_false, if_true, VL, VB, BEq.rfl, V1, V2, V3, V4, V5, V6, V7, V8, V9, V10, VE, Nat.reduceBEq, Nat.reduceAdd, Nat.reduceSub, Nat.reduceMul, Nat.reduceLeDiff, Nat.reduceLT, Nat.reduceEqDiff, Int.reduceBEq, Int.reduceBNe, Int.reduceLT, Int.reduceLE, Int.reduceAdd, Int.reduceSub, Int.reduceMul]
  · simp only [hlen, hp, hq, len_ne, Bool.false_eq_true, if_false, if_true, VL, VB, BEq.rfl, V1, V2, V3, V4, V5, V6, V7, V8, V9, V10, VE, Nat.reduceBEq, Nat.reduceAdd, Nat.reduceSub, Nat.reduceMul, Nat.reduceLeDiff, Nat.reduceLT, Nat.reduceEqDiff, Int.reduceBEq, Int.reduceBNe, Int.reduceLT, Int.reduceLE, Int.reduceAdd, Int.reduceSub, Int.reduceMul]

theorem rcompatible_ok (xs ys : List Cell) : Ok Try.prog E 14 [.c (cells xs), .c (cells ys)] (.tp [bv (okTwoR xs ys && fitR xs ys), nv (if okTwoR xs ys then 0 else 2)]) := by
  refine ok_of_vc (L := []) (ts := [4, 5]) envOK mixed Try.func14 rfl (by kernel_rfl) rfl (by kernel_rfl) rfl fun hl => ?_
  simp only [Try.f14, bv, nv, VL, VB, BEq.rfl, V1, V2, V3, V4, V5, V6, V7, V8, V9, V10, VE, Nat.reduceBEq, Nat.reduceAdd, Nat.reduceSub, Nat.reduceMul, Nat.reduceLeDiff, Nat.reduceLT, Nat.reduceEqDiff, Int.reduceBEq, Int.reduceBNe, Int.reduceLT, Int.reduceLE, Int.reduceAdd, Int.reduceSub, Int.reduceMul]
  refine CallX.mk (two_ok xs ys) rfl ?_
  obtain ⟨p, hp⟩ : ∃ p, okTwoR xs ys = p := ⟨_, rfl⟩
  have hp' := hp
  rw [okTwoR] at hp'
  cases p <;> simp only [hp, hp', Bool.false_eq_true, if_false, if_true, VL, VB, BEq.rfl, V1, V2, V3, V4, V5, V6, V7, V8, V9, V10, VE, Nat.reduceBEq, Nat.reduceAdd, Nat.reduceSub, Nat.reduceMul, Nat.reduceLeDiff, Nat.reduceLT, Nat.reduceEqDiff, Int.reduceBEq, Int.reduceBNe, Int.reduceLT, Int.reduceLE, Int.reduceAdd, Int.reduceSub, Int.reduceMul]
  have hlen : xs.length = ys.length := by simp_all
  refine CallX.mk (rfit_ok xs ys (by omega)) rfl ?_
  simp only [hp, hp', Bool.false_eq_true, if_false, if_true, VL, VB, BEq.rfl, V1, V2, V3, V4, V5, V6, V7, V8, V9, V10, VE, Nat.reduceBEq, Nat.reduceAdd, Nat.reduceSub, Nat.reduceMul, Nat.reduceLeDiff, Nat.reduceLT, Nat.reduceEqDiff, Int.reduceBEq, Int.reduceBNe, Int.reduceLT, Int.reduceLE, Int.reduceAdd, Int.reduceSub, Int.reduceMul]

def joinE (ok fit : Bool) : Int := if ok then (if fit then 0 else 8) else 2
theorem Join_ok (xs ys : List Cell) (hb : xs.length * 16 ≤ 140737488355328) : Ok Try.prog E 15 [.c (cells xs), .c (cells ys)] (.tp [.fr 57 (if okTwo xs ys && fitC xs ys then (joinC xs ys).map Cell.enc else []), nv (joinE (okTwo xs ys) (fitC xs ys))]) := by
  refine ok_of_vc (L := []) (ts := [4, 5]) envOK mixed Try.func15 rfl (by kernel_rfl) rfl (by kernel_rfl) rfl fun hl => ?_
  simp only [Try.f15, bv, nv, VL, VB, BEq.rfl, V1, V2, V3, V4, V5, V6, V7, V8, V9, V10, VE, Nat.reduceBEq, Nat.reduceAdd, Nat.reduceSub, Nat.reduceMul, Nat.reduceLeDiff, Nat.reduceLT, Nat.reduceEqDiff, Int.reduceBEq, Int.reduceBNe, Int.reduceLT, Int.reduceLE, Int.reduceAdd, Int.reduceSub, Int.reduceMul]
  refine CallX.mk (compatible_ok xs ys) rfl ?_
  obtain ⟨p, hp⟩ : ∃ p, okTwo xs ys = p := ⟨_, rfl⟩
  obtain ⟨q, hq⟩ : ∃ q, fitC xs ys = q := ⟨_, rfl⟩
  cases p <;> cases q <;> simp only [bv, nv, joinE, hp, hq, Bool.false_eq_true, if_false, if_true, List.all_cons, List.all_nil, Option.isSome_some, VL, VB, BEq.rfl, V1, V2, V3, V4, V5, V6, V7, V8, V9, V10, VE, Nat.reduceBEq, Nat.reduceAdd, Nat.reduceSub, Nat.reduceMul, Nat.reduceLeDiff, Nat.reduceLT, Nat.reduceEqDiff, Int.reduceBEq, Int.reduceBNe, Int.reduceLT, Int.reduceLE, Int.reduceAdd, Int.reduceSub, Int.reduceMul]
  have hlen : xs.length = ys.length := by simp_all [okTwo]
  refine CallX.mk (join_ok xs ys (by omega) hb) rfl ?_
  simp only [isSc, bv, nv, joinE, hp, hq, Bool.false_eq_true, if_false, if_true, List.all_cons, List.all_nil, Option.isSome_some, VL, VB, BEq.rfl, V1, V2, V3, V4, V5, V6, V7, V8, V9, V10, VE, Nat.reduceBEq, Nat.reduceAdd, Nat.reduceSub, Nat.reduceMul, Nat.reduceLeDiff, Nat.reduceLT, Nat.reduceEqDiff, Int.reduceBEq, Int.reduceBNe, Int.reduceLT, Int.reduceLE, Int.reduceAdd, Int.reduceSub, Int.reduceMul]

theorem rJoin_ok (xs ys : List Cell) (hb : xs.length * 16 ≤ 140737488355328) : Ok Try.prog E 16 [.c (cells xs), .c (cells ys)] (.tp [.fr 57 (if okTwoR xs ys && fitR xs ys then (joinR xs ys).map Cell.enc else []), nv (joinE (okTwoR xs ys) (fitR xs ys))]) := by
  refine ok_of_vc (L := []) (ts := [4, 5]) envOK mixed Try.func16 rfl (by kernel_rfl) rfl (by kernel_rfl) rfl fun hl => ?_
  simp only [Try.f16, bv, nv, VL, VB, BEq.rfl, V1, V2, V3, V4, V5, V6, V7, V8, V9, V10, VE, Nat.reduceBEq, Nat.reduceAdd, Nat.reduceSub, Nat.reduceMul, Nat.reduceLeDiff, Nat.reduceLT, Nat.reduceEqDiff, Int.reduceBEq, Int.reduceBNe, Int.reduceLT, Int.reduceLE, Int.reduceAdd, Int.reduceSub, Int.reduceMul]
  refine CallX.mk (two_ok xs ys) rfl ?_
  obtain ⟨p, hp⟩ : ∃ p, okTwoR xs ys = p := ⟨_, rfl⟩
  obtain ⟨q, hq⟩ : ∃ q, fitR xs ys = q := ⟨_, rfl⟩
  have hp' := hp
  rw [okTwoR] at hp'
  cases p <;> simp only [bv, nv, joinE, hp, hp', hq, Bool.false_eq_true, if_false, if_true, List.all_cons, List.all_nil, Option.isSome_some, VL, VB, BEq.rfl, V1, V2, V3, V4, V5, V6, V7, V8, V9, V10, VE, Nat.reduceBEq, Nat.reduceAdd, Nat.reduceSub, Nat.reduceMul, Nat.reduceLeDiff, Nat.reduceLT, Nat.reduceEqDiff, Int.reduceBEq, Int.reduceBNe, Int.reduceLT, Int.reduceLE, Int.reduceAdd, Int.reduceSub, Int.reduceMul]
  have hlen : xs.length = ys.length := by simp_all
  refine CallX.mk (rfit_ok xs ys (by omega)) rfl ?_
  cases q <;> simp only [bv, nv, joinE, hp, hp', hq, Bool.false_eq_true, if_false, if_true, List.all_cons, List.all_nil, Option.isSome_some, VL, VB, BEq.rfl, V1, V2, V3, V4, V5, V6, V7, V8, V9, V10, VE, Nat.reduceBEq, Nat.reduceAdd, Nat.reduceSub, Nat.reduceMul, Nat.reduceLeDiff, Nat.reduceLT, Nat.reduceEqDiff, Int.reduceBEq, Int.reduceBNe, Int.reduceLT, Int.reduceLE, Int.reduceAdd, Int.reduceSub, Int.reduceMul]
  refine CallX.mk (rjoin_ok xs ys (by omega) hb) rfl ?_
  simp only [isSc, bv, nv, joinE, hp, hp', hq, Bool.false_eq_true, if_false, if_true, List.all_cons, List.all_nil, Option.isSome_some, VL, VB, BEq.rfl, V1, V2, V3, V4, V5, V6, V7, V8, V9, V10, VE, Nat.reduceBEq, Nat.reduceAdd, Nat.reduceSub, Nat.reduceMul, Nat.reduceLeDiff, Nat.reduceLT, Nat.reduceEqDiff, Int.reduceBEq, Int.reduceBNe, Int.reduceLT, Int.reduceLE, Int.reduceAdd, Int.reduceSub, Int.reduceMul]

end Go.Cp
end

section
set_option linter.unusedVariables false
set_option linter.unusedSimpArgs false
namespace Go.Cp
open Go Go.Proofs Go.Vx

theorem kind_zero {c : Cell} (h : validC c = true) : c.kind = 0 ↔ c = Cell.zero := by
  obtain ⟨kd, p, m⟩ := c
  simp only [validC, Cell.zero] at h ⊢
  constructor
  · intro h0
    subst h0
    simpa using h
  · intro h0
    simp only [Cell.mk.injEq] at h0
    exact h0.1
theorem fit_same : ∀ {xs ys : List Cell}, xs.all validC = true → ys.all validC = true → fitC xs ys = fitR xs ys
  | [], _, _, _ => rfl
  | _ :: _, [], _, _ => rfl
  | x :: xs, y :: ys, hx, hy => by
    simp only [List.all_cons, Bool.and_eq_true] at hx hy
    have ih := fit_same hx.2 hy.2
    simp only [fitC, fitR, List.zip_cons_cons, List.all_cons] at ih ⊢
    have e1 : fitP (x, y) = fitQ (x, y) := by
      simp only [fitP, fitQ]
      congr 2
      · exact decide_eq_decide.2 (kind_zero hx.1).symm
      · exact decide_eq_decide.2 (kind_zero hy.1).symm
    rw [e1]
    exact congrArg _ ih
theorem join_same : ∀ {xs ys : List Cell}, xs.all validC = true → joinC xs ys = joinR xs ys
  | [], _, _ => rfl
  | _ :: _, [], _ => rfl
  | x :: xs, y :: ys, hx => by
    simp only [List.all_cons, Bool.and_eq_true] at hx
    have ih := join_same (ys := ys) hx.2
    simp only [joinC, joinR, List.zipWith_cons_cons] at ih ⊢
    rw [ih]
    congr 1
    unfold joinP joinQ
    by_cases h : x = Cell.zero
    · rw [if_pos h, if_pos ((kind_zero hx.1).2 h)]
    · rw [if_neg h, if_neg fun e => h ((kind_zero hx.1).1 e)]
theorem okTwo_same {xs ys : List Cell} (hx : ∀ c ∈ xs, c.In) (hy : ∀ c ∈ ys, c.In) : okTwoR xs ys = okTwo xs ys := by
  unfold okTwoR okTwo
  rw [valid_all hx, valid_all hy]

end Go.Cp
end

section
set_option linter.unusedVariables false
set_option linter.unusedSimpArgs false
set_option maxHeartbeats 4000000
set_option maxRecDepth 10000
namespace Go.Cp
open Go Go.Proofs Go.Vx

def corrB (n : Nat) (c : Corr) : Bool := c.cells.all validC && (!decide (c.count < 0) && (!decide (1073741824 < c.count) && decide (c.cells.length = n)))
def headLen (l : List Corr) : Nat := (l.getD 0 Corr.zero).cells.length
def listC (l : List Corr) : Bool := l.all (corrB (headLen l))
def checkC (l : List Corr) (most : Int) : Int := if most < l.length then 12 else if listC l then 0 else 2

theorem check_ok (l : List Corr) (most : Int) : Ok Try.prog E 44 [.c (corrs l), nv most] (nv (checkC l most)) := by
  refine ok_of_vc (L := []) (ts := [4]) envOK mixed Try.func44 rfl (by kernel_rfl) rfl (by kernel_rfl) rfl fun hl => ?_
  have hx := len_of (hl _ (List.mem_cons_self ..))
  rw [List.length_map] at hx
  simp only [Try.f44, nv, VL, VB, BEq.rfl, V1, V2, V3, V4, V5, V6, V7, V8, V9, V10, VE, Nat.reduceBEq, Nat.reduceAdd, Nat.reduceSub, Nat.reduceMul, Nat.reduceLeDiff, Nat.reduceLT, Nat.reduceEqDiff, Int.reduceBEq, Int.reduceBNe, Int.reduceLT, Int.reduceLE, Int.reduceAdd, Int.reduceSub, Int.reduceMul]
  refine guardB.mk (fun h => ?_) (fun h => ?_)
  · simp only [VL, VB, BEq.rfl, V1, V2, V3, V4, V5, V6, V7, V8, V9, V10, VE, Nat.reduceBEq, Nat.reduceAdd, Nat.reduceSub, Nat.reduceMul, Nat.reduceLeDiff, Nat.reduceLT, Nat.reduceEqDiff, Int.reduceBEq, Int.reduceBNe, Int.reduceLT, Int.reduceLE, Int.reduceAdd, Int.reduceSub, Int.reduceMul]
    rw [checkC, if_pos (by simpa using h)]
  · simp only [VL, VB, BEq.rfl, V1, V2, V3, V4, V5, V6, V7, V8, V9, V10, VE, Nat.reduceBEq, Nat.reduceAdd, Nat.reduceSub, Nat.reduceMul, Nat.reduceLeDiff, Nat.reduceLT, Nat.reduceEqDiff, Int.reduceBEq, Int.reduceBNe, Int.reduceLT, Int.reduceLE, Int.reduceAdd, Int.reduceSub, Int.reduceMul]
    have hm : checkC l most = if listC l then 0 else 2 := by rw [checkC, if_neg (by simpa using h)]
    refine LoopVC.mk (Y := Nat) (fun k => k ≤ l.length ∧ ∀ i < k, ∀ x, l[i]? = some x → corrB (headLen l) x = true) (fun k => ⟨[(0, .c (corrs l)), (11, .c (corrs l)), (12, .c (.sc (.int .i64 l.length))), (13, .c (.sc (.int .i64 k)))], []⟩) (fun k => l.length - k) ⟨0, Enter.id ?_, by omega, by omega⟩ ?_
    · simp only [VL, VB, BEq.rfl, V1, V2, V3, V4, V5, V6, V7, V8, V9, V10, VE, Nat.reduceBEq, Nat.reduceAdd, Nat.reduceSub, Nat.reduceMul, Nat.reduceLeDiff, Nat.reduceLT, Nat.reduceEqDiff, Int.reduceBEq, Int.reduceBNe, Int.reduceLT, Int.reduceLE, Int.reduceAdd, Int.reduceSub, Int.reduceMul]
      rfl
    rintro k ⟨hk, hpre⟩
    simp only [VL, VB, BEq.rfl, V1, V2, V3, V4, V5, V6, V7, V8, V9, V10, VE, Nat.reduceBEq, Nat.reduceAdd, Nat.reduceSub, Nat.reduceMul, Nat.reduceLeDiff, Nat.reduceLT, Nat.reduceEqDiff, Int.reduceBEq, Int.reduceBNe, Int.reduceLT, Int.reduceLE, Int.reduceAdd, Int.reduceSub, Int.reduceMul]
    refine guardB.mk (fun h => ?_) (fun h => ?_)
    · have hk' : k < l.length := by simpa using h
      have h0 : 0 < l.length := by omega
      obtain ⟨c, hc⟩ : ∃ c, l.getD k Corr.zero = c := ⟨_, rfl⟩
      obtain ⟨d, hd⟩ : ∃ d, l.getD 0 Corr.zero = d := ⟨_, rfl⟩
      have hhead : headLen l = d.cells.length := by rw [headLen, hd]
      have hwrap : IntKind.i64.wrap ((k : Int) + 1) = ((k + 1 : Nat) : Int) := by rw [wrap_of (by omega) (by omega)]; rfl
      have hno : corrB (headLen l) c = false → D.sc (Value.int .i64 2) = D.sc (Value.int .i64 (checkC l most)) := fun hf => by rw [hm, listC, all_false (z := Corr.zero) hk' (by rw [hc]; exact hf)]; rfl
      have hyes : corrB (headLen l) c = true → (∀ i < k + 1, ∀ x, l[i]? = some x → corrB (headLen l) x = true) := fun hf => all_next (z := Corr.zero) hk' hpre (by rw [hc]; exact hf)
      simp only [getD_corr, hk', h0, hc, hd, hwrap, corr_def, len_ne, VL, VB, BEq.rfl, V1, V2, V3, V4, V5, V6, V7, V8, V9, V10, VE, Nat.reduceBEq, Nat.reduceAdd, Nat.reduceSub, Nat.reduceMul, Nat.reduceLeDiff, Nat.reduceLT, Nat.reduceEqDiff, Int.reduceBEq, Int.reduceBNe, Int.reduceLT, Int.reduceLE, Int.reduceAdd, Int.reduceSub, Int.reduceMul]
      refine ⟨Int.natCast_nonneg k, ?_⟩
      refine CallX.mk (cvalid_ok c.cells) rfl ?_
      simp only [getD_corr, hk', h0, hc, hd, hwrap, corr_def, len_ne, VL, VB, BEq.rfl, V1, V2, V3, V4, V5, V6, V7, V8, V9, V10, VE, Nat.reduceBEq, Nat.reduceAdd, Nat.reduceSub, Nat.reduceMul, Nat.reduceLeDiff, Nat.reduceLT, Nat.reduceEqDiff, Int.reduceBEq, Int.reduceBNe, Int.reduceLT, Int.reduceLE, Int.reduceAdd, Int.reduceSub, Int.reduceMul]
      refine guardB.mk (fun h2 => ?_) (fun h2 => ?_) <;> simp only [h2, getD_corr, hk', h0, hc, hd, hwrap, corr_def, len_ne, VL, VB, BEq.rfl, V1, V2, V3, V4, V5, V6, V7, V8, V9, V10, VE, Nat.reduceBEq, Nat.reduceAdd, Nat.reduceSub, Nat.reduceMul, Nat.reduceLeDiff, Nat.reduceLT, Nat.reduceEqDiff, Int.reduceBEq, Int.reduceBNe, Int.reduceLT, Int.reduceLE, Int.reduceAdd, Int.reduceSub, Int.reduceMul]
      · exact hno (by rw [corrB, show c.cells.all validC = false from (by simpa only [Bool.not_eq_true'] using h2), Bool.false_and])
      · refine guardB.mk (fun h3 => ?_) (fun h3 => ?_) <;> simp only [h3, getD_corr, hk', h0, hc, hd, hwrap, corr_def, len_ne, VL, VB, BEq.rfl, V1, V2, V3, V4, V5, V6, V7, V8, V9, V10, VE, Nat.reduceBEq, Nat.reduceAdd, Nat.reduceSub, Nat.reduceMul, Nat.reduceLeDiff, Nat.reduceLT, Nat.reduceEqDiff, Int.reduceBEq, Int.reduceBNe, Int.reduceLT, Int.reduceLE, Int.reduceAdd, Int.reduceSub, Int.reduceMul]
        · exact hno (by simp_all [corrB])
        · refine guardB.mk (fun h4 => ?_) (fun h4 => ?_) <;> simp only [h4, getD_corr, hk', h0, hc, hd, hwrap, corr_def, len_ne, VL, VB, BEq.rfl, V1, V2, V3, V4, V5, V6, V7, V8, V9, V10, VE, Nat.reduceBEq, Nat.reduceAdd, Nat.reduceSub, Nat.reduceMul, Nat.reduceLeDiff, Nat.reduceLT, Nat.reduceEqDiff, Int.reduceBEq, Int.reduceBNe, Int.reduceLT, Int.reduceLE, Int.reduceAdd, Int.reduceSub, Int.reduceMul]
          · exact hno (by simp_all [corrB]; try omega)
          · refine guardB.mk (fun h5 => ?_) (fun h5 => ?_) <;> simp only [h5, getD_corr, hk', h0, hc, hd, hwrap, corr_def, len_ne, VL, VB, BEq.rfl, V1, V2, V3, V4, V5, V6, V7, V8, V9, V10, VE, Nat.reduceBEq, Nat.reduceAdd, Nat.reduceSub, Nat.reduceMul, Nat.reduceLeDiff, Nat.reduceLT, Nat.reduceEqDiff, Int.reduceBEq, Int.reduceBNe, Int.reduceLT, Int.reduceLE, Int.reduceAdd, Int.reduceSub, Int.reduceMul]
            · exact hno (by simp_all [corrB])
            · refine ⟨k + 1, Enter.id (by simp only [VL, VB, BEq.rfl, V1, V2, V3, V4, V5, V6, V7, V8, V9, V10, VE, Nat.reduceBEq, Nat.reduceAdd, Nat.reduceSub, Nat.reduceMul, Nat.reduceLeDiff, Nat.reduceLT, Nat.reduceEqDiff, Int.reduceBEq, Int.reduceBNe, Int.reduceLT, Int.reduceLE, Int.reduceAdd, Int.reduceSub, Int.reduceMul]), ⟨by omega, hyes (by simp_all [corrB])⟩, by show l.length - (k + 1) < l.length - k; omega⟩
    · simp only [VL, VB, BEq.rfl, V1, V2, V3, V4, V5, V6, V7, V8, V9, V10, VE, Nat.reduceBEq, Nat.reduceAdd, Nat.reduceSub, Nat.reduceMul, Nat.reduceLeDiff, Nat.reduceLT, Nat.reduceEqDiff, Int.reduceBEq, Int.reduceBNe, Int.reduceLT, Int.reduceLE, Int.reduceAdd, Int.reduceSub, Int.reduceMul]
      have hk' : ¬ k < l.length := by simpa using h
      rw [hm, listC, all_true hk' hpre]
      rfl

def corrD (n : Nat) (c : Corr) : Bool := c.cells.all validD && (!decide (c.count < 0) && (!decide (1073741824 < c.count) && decide (c.cells.length = n)))
def listR (l : List Corr) : Bool := l.all (corrD (headLen l))
def checkR (l : List Corr) (most : Int) : Int := if most < l.length then 12 else if listR l then 0 else 2

theorem list_ok (l : List Corr) : Ok Try.prog E 52 [.c (corrs l)] (bv (listR l)) := by
  refine ok_of_vc (L := []) (ts := [2]) envOK mixed Try.func52 rfl (by kernel_rfl) rfl (by kernel_rfl) rfl fun hl => ?_
  have hx := len_of (hl _ (List.mem_cons_self ..))
  rw [List.length_map] at hx
  simp only [Try.f52, bv, VL, VB, BEq.rfl, V1, V2, V3, V4, V5, V6, V7, V8, V9, V10, VE, Nat.reduceBEq, Nat.reduceAdd, Nat.reduceSub, Nat.reduceMul, Nat.reduceLeDiff, Nat.reduceLT, Nat.reduceEqDiff, Int.reduceBEq, Int.reduceBNe, Int.reduceLT, Int.reduceLE, Int.reduceAdd, Int.reduceSub, Int.reduceMul]
  refine LoopVC.mk (Y := Nat) (fun k => k ≤ l.length ∧ ∀ i < k, ∀ x, l[i]? = some x → corrD (headLen l) x = true) (fun k => ⟨[(0, .c (corrs l)), (3, .c (.sc (.int .i64 k)))], []⟩) (fun k => l.length - k) ⟨0, Enter.id ?_, by omega, by omega⟩ ?_
  · simp only [VL, VB, BEq.rfl, V1, V2, V3, V4, V5, V6, V7, V8, V9, V10, VE, Nat.reduceBEq, Nat.reduceAdd, Nat.reduceSub, Nat.reduceMul, Nat.reduceLeDiff, Nat.reduceLT, Nat.reduceEqDiff, Int.reduceBEq, Int.reduceBNe, Int.reduceLT, Int.reduceLE, Int.reduceAdd, Int.reduceSub, Int.reduceMul]
    rfl
  rintro k ⟨hk, hpre⟩
  simp only [VL, VB, BEq.rfl, V1, V2, V3, V4, V5, V6, V7, V8, V9, V10, VE, Nat.reduceBEq, Nat.reduceAdd, Nat.reduceSub, Nat.reduceMul, Nat.reduceLeDiff, Nat.reduceLT, Nat.reduceEqDiff, Int.reduceBEq, Int.reduceBNe, Int.reduceLT, Int.reduceLE, Int.reduceAdd, Int.reduceSub, Int.reduceMul]
  refine guardB.mk (fun h => ?_) (fun h => ?_)
  · have hk' : k < l.length := by simpa using h
    have h0 : 0 < l.length := by omega
    obtain ⟨c, hc⟩ : ∃ c, l.getD k Corr.zero = c := ⟨_, rfl⟩
    obtain ⟨d, hd⟩ : ∃ d, l.getD 0 Corr.zero = d := ⟨_, rfl⟩
    have hhead : headLen l = d.cells.length := by rw [headLen, hd]
    have hwrap : IntKind.i64.wrap ((k : Int) + 1) = ((k + 1 : Nat) : Int) := by rw [wrap_of (by omega) (by omega)]; rfl
    have hno : corrD (headLen l) c = false → D.sc (Value.bool false) = D.sc (Value.bool (listR l)) := fun hf => by rw [listR, all_false (z := Corr.zero) hk' (by rw [hc]; exact hf)]
    have hyes : corrD (headLen l) c = true → (∀ i < k + 1, ∀ x, l[i]? = some x → corrD (headLen l) x = true) := fun hf => all_next (z := Corr.zero) hk' hpre (by rw [hc]; exact hf)
    simp only [getD_corr, hk', h0, hc, hd, hwrap, corr_def, len_ne, VL, VB, BEq.rfl, V1, V2, V3, V4, V5, V6, V7, V8, V9, V10, VE, Nat.reduceBEq, Nat.reduceAdd, Nat.reduceSub, Nat.reduceMul, Nat.reduceLeDiff, Nat.reduceLT, Nat.reduceEqDiff, Int.reduceBEq, Int.reduceBNe, Int.reduceLT, Int.reduceLE, Int.reduceAdd, Int.reduceSub, Int.reduceMul]
    refine ⟨Int.natCast_nonneg k, ?_⟩
    refine CallX.mk (rcells_ok c.cells) rfl ?_
    simp only [getD_corr, hk', h0, hc, hd, hwrap, corr_def, len_ne, VL, VB, BEq.rfl, V1, V2, V3, V4, V5, V6, V7, V8, V9, V10, VE, Nat.reduceBEq, Nat.reduceAdd, Nat.reduceSub, Nat.reduceMul, Nat.reduceLeDiff, Nat.reduceLT, Nat.reduceEqDiff, Int.reduceBEq, Int.reduceBNe, Int.reduceLT, Int.reduceLE, Int.reduceAdd, Int.reduceSub, Int.reduceMul]
    refine guardB.mk (fun h2 => ?_) (fun h2 => ?_) <;> simp only [h2, getD_corr, hk', h0, hc, hd, hwrap, corr_def, len_ne, VL, VB, BEq.rfl, V1, V2, V3, V4, V5, V6, V7, V8, V9, V10, VE, Nat.reduceBEq, Nat.reduceAdd, Nat.reduceSub, Nat.reduceMul, Nat.reduceLeDiff, Nat.reduceLT, Nat.reduceEqDiff, Int.reduceBEq, Int.reduceBNe, Int.reduceLT, Int.reduceLE, Int.reduceAdd, Int.reduceSub, Int.reduceMul]
    · exact hno (by rw [corrD, show c.cells.all validD = false from (by simpa only [Bool.not_eq_true'] using h2), Bool.false_and])
    · refine ⟨Int.natCast_nonneg k, ?_⟩
      refine guardB.mk (fun h3 => ?_) (fun h3 => ?_) <;> simp only [h3, getD_corr, hk', h0, hc, hd, hwrap, corr_def, len_ne, VL, VB, BEq.rfl, V1, V2, V3, V4, V5, V6, V7, V8, V9, V10, VE, Nat.reduceBEq, Nat.reduceAdd, Nat.reduceSub, Nat.reduceMul, Nat.reduceLeDiff, Nat.reduceLT, Nat.reduceEqDiff, Int.reduceBEq, Int.reduceBNe, Int.reduceLT, Int.reduceLE, Int.reduceAdd, Int.reduceSub, Int.reduceMul]
      · exact hno (by simp_all [corrD])
      · refine ⟨Int.natCast_nonneg k, ?_⟩
        refine guardB.mk (fun h4 => ?_) (fun h4 => ?_) <;> simp only [h4, getD_corr, hk', h0, hc, hd, hwrap, corr_def, len_ne, VL, VB, BEq.rfl, V1, V2, V3, V4, V5, V6, V7, V8, V9, V10, VE, Nat.reduceBEq, Nat.reduceAdd, Nat.reduceSub, Nat.reduceMul, Nat.reduceLeDiff, Nat.reduceLT, Nat.reduceEqDiff, Int.reduceBEq, Int.reduceBNe, Int.reduceLT, Int.reduceLE, Int.reduceAdd, Int.reduceSub, Int.reduceMul]
        · exact hno (by simp_all [corrD]; try omega)
        · refine ⟨Int.natCast_nonneg k, ?_⟩
          refine guardB.mk (fun h5 => ?_) (fun h5 => ?_) <;> simp only [h5, getD_corr, hk', h0, hc, hd, hwrap, corr_def, len_ne, VL, VB, BEq.rfl, V1, V2, V3, V4, V5, V6, V7, V8, V9, V10, VE, Nat.reduceBEq, Nat.reduceAdd, Nat.reduceSub, Nat.reduceMul, Nat.reduceLeDiff, Nat.reduceLT, Nat.reduceEqDiff, Int.reduceBEq, Int.reduceBNe, Int.reduceLT, Int.reduceLE, Int.reduceAdd, Int.reduceSub, Int.reduceMul]
          · exact hno (by simp_all [corrD])
          · refine ⟨k + 1, Enter.id (by simp only [VL, VB, BEq.rfl, V1, V2, V3, V4, V5, V6, V7, V8, V9, V10, VE, Nat.reduceBEq, Nat.reduceAdd, Nat.reduceSub, Nat.reduceMul, Nat.reduceLeDiff, Nat.reduceLT, Nat.reduceEqDiff, Int.reduceBEq, Int.reduceBNe, Int.reduceLT, Int.reduceLE, Int.reduceAdd, Int.reduceSub, Int.reduceMul]), ⟨by omega, hyes (by simp_all [corrD])⟩, by show l.length - (k + 1) < l.length - k; omega⟩
  · simp only [VL, VB, BEq.rfl, V1, V2, V3, V4, V5, V6, V7, V8, V9, V10, VE, Nat.reduceBEq, Nat.reduceAdd, Nat.reduceSub, Nat.reduceMul, Nat.reduceLeDiff, Nat.reduceLT, Nat.reduceEqDiff, Int.reduceBEq, Int.reduceBNe, Int.reduceLT, Int.reduceLE, Int.reduceAdd, Int.reduceSub, Int.reduceMul]
    have hk' : ¬ k < l.length := by simpa using h
    rw [listR, all_true hk' hpre]

theorem rcheck_ok (l : List Corr) (most : Int) : Ok Try.prog E 45 [.c (corrs l), nv most] (nv (checkR l most)) := by
  refine ok_of_vc (L := []) (ts := [4]) envOK mixed Try.func45 rfl (by kernel_rfl) rfl (by kernel_rfl) rfl fun hl => ?_
  simp only [Try.f45, nv, VL, VB, BEq.rfl, V1, V2, V3, V4, V5, V6, V7, V8, V9, V10, VE, Nat.reduceBEq, Nat.reduceAdd, Nat.reduceSub, Nat.reduceMul, Nat.reduceLeDiff, Nat.reduceLT, Nat.reduceEqDiff, Int.reduceBEq, Int.reduceBNe, Int.reduceLT, Int.reduceLE, Int.reduceAdd, Int.reduceSub, Int.reduceMul]
  refine guardB.mk (fun h => ?_) (fun h => ?_)
  · simp only [VL, VB, BEq.rfl, V1, V2, V3, V4, V5, V6, V7, V8, V9, V10, VE, Nat.reduceBEq, Nat.reduceAdd, Nat.reduceSub, Nat.reduceMul, Nat.reduceLeDiff, Nat.reduceLT, Nat.reduceEqDiff, Int.reduceBEq, Int.reduceBNe, Int.reduceLT, Int.reduceLE, Int.reduceAdd, Int.reduceSub, Int.reduceMul]
    rw [checkR, if_pos (by simpa using h)]
  · simp only [VL, VB, BEq.rfl, V1, V2, V3, V4, V5, V6, V7, V8, V9, V10, VE, Nat.reduceBEq, Nat.reduceAdd, Nat.reduceSub, Nat.reduceMul, Nat.reduceLeDiff, Nat.reduceLT, Nat.reduceEqDiff, Int.reduceBEq, Int.reduceBNe, Int.reduceLT, Int.reduceLE, Int.reduceAdd, Int.reduceSub, Int.reduceMul]
    have hm : checkR l most = if listR l then 0 else 2 := by rw [checkR, if_neg (by simpa using h)]
    refine CallX.mk (list_ok l) rfl ?_
    obtain ⟨p, hp⟩ : ∃ p, listR l = p := ⟨_, rfl⟩
    cases p <;> simp only [bv, hp, hm, Bool.false_eq_true, if_false, if_true, VL, VB, BEq.rfl, V1, V2, V3, V4, V5, V6, V7, V8, V9, V10, VE, Nat.reduceBEq, Nat.reduceAdd, Nat.reduceSub, Nat.reduceMul, Nat.reduceLeDiff, Nat.reduceLT, Nat.reduceEqDiff, Int.reduceBEq, Int.reduceBNe, Int.reduceLT, Int.reduceLE, Int.reduceAdd, Int.reduceSub, Int.reduceMul]

def Corr.In (c : Corr) : Prop := ∀ x ∈ c.cells, x.In
theorem list_same {l : List Corr} (h : ∀ c ∈ l, c.In) : listR l = listC l := by
  unfold listR listC
  rw [Bool.eq_iff_iff, List.all_eq_true, List.all_eq_true]
  have he : ∀ c ∈ l, corrD (headLen l) c = corrB (headLen l) c := fun c hc => by
    rw [corrD, corrB, valid_all (h c hc)]
  exact ⟨fun hh c hc => by rw [← he c hc]; exact hh c hc, fun hh c hc => by rw [he c hc]; exact hh c hc⟩
theorem check_same {l : List Corr} (h : ∀ c ∈ l, c.In) (most : Int) : checkR l most = checkC l most := by
  rw [checkR, checkC, list_same h]

end Go.Cp
end

section
set_option linter.unusedVariables false
set_option linter.unusedSimpArgs false
set_option maxHeartbeats 4000000
set_option maxRecDepth 10000
namespace Go.Cp
open Go Go.Proofs Go.Vx

def pairD (p : Nat × Nat) : List D := [.sc (.int .i64 p.1), .sc (.int .i64 p.2)]
def cellsAt (l : List Corr) (i : Nat) : List Cell := (l.getD i Corr.zero).cells
/-- the conflicts of number i with those behind it, as far as j -/
def confRow (f : List Cell → List Cell → Bool) (l : List Corr) (i j : Nat) : List (Nat × Nat) := (List.range' (i + 1) (j - (i + 1))).filterMap fun j => if f (cellsAt l i) (cellsAt l j) then none else some (i, j)
def confs (f : List Cell → List Cell → Bool) (l : List Corr) (k : Nat) : List (Nat × Nat) := (List.range k).flatMap fun i => confRow f l i l.length
theorem confs_succ (f : List Cell → List Cell → Bool) (l : List Corr) (k : Nat) : confs f l (k + 1) = confs f l k ++ confRow f l k l.length := by
  simp only [confs, List.range_succ, List.flatMap_append, List.flatMap_cons, List.flatMap_nil, List.append_nil]
theorem confRow_start (f : List Cell → List Cell → Bool) (l : List Corr) (i : Nat) : confRow f l i (i + 1) = [] := by simp [confRow]
theorem confRow_succ (f : List Cell → List Cell → Bool) (l : List Corr) (i j : Nat) (h : i < j) : confRow f l i (j + 1) = confRow f l i j ++ (if f (cellsAt l i) (cellsAt l j) then [] else [(i, j)]) := by
  have e : j + 1 - (i + 1) = (j - (i + 1)) + 1 := by omega
  have e2 : i + 1 + (j - (i + 1)) = j := by omega
  rw [confRow, e, List.range'_concat, List.filterMap_append, confRow]
  congr 1
  simp only [Nat.one_mul, e2, List.filterMap_cons, List.filterMap_nil]
  split <;> rename_i h <;> split at h <;> simp_all
theorem confRow_len (f : List Cell → List Cell → Bool) (l : List Corr) (i j : Nat) : (confRow f l i j).length ≤ j := by
  refine Nat.le_trans (List.length_filterMap_le _ _) ?_
  rw [List.length_range']; omega
theorem confs_len (f : List Cell → List Cell → Bool) (l : List Corr) : ∀ k, (confs f l k).length ≤ k * l.length
  | 0 => by simp [confs]
  | k + 1 => by
    rw [confs_succ, List.length_append, Nat.succ_mul]
    have := confs_len f l k
    have := confRow_len f l k l.length
    omega

theorem conflicts_ok (l : List Corr) : Ok Try.prog E 20 [.c (corrs l)] (.tp [.fr 36 (if checkC l 256 = 0 then (confs fitC l l.length).map pairD else []), nv (checkC l 256)]) := by
  refine ok_of_vc (L := []) (ts := [2, 3]) envOK mixed Try.func20 rfl (by kernel_rfl) rfl (by kernel_rfl) rfl fun hl => ?_
  have hx := len_of (hl _ (List.mem_cons_self ..))
  rw [List.length_map] at hx
  simp only [Try.f20, nv, VL, VB, BEq.rfl, V1, V2, V3, V4, V5, V6, V7, V8, V9, V10, VE, Nat.reduceBEq, Nat.reduceAdd, Nat.reduceSub, Nat.reduceMul, Nat.reduceLeDiff, Nat.reduceLT, Nat.reduceEqDiff, Int.reduceBEq, Int.reduceBNe, Int.reduceLT, Int.reduceLE, Int.reduceAdd, Int.reduceSub, Int.reduceMul]
  refine CallX.mk (check_ok l 256) rfl ?_
  simp only [nv, VL, VB, BEq.rfl, V1, V2, V3, V4, V5, V6, V7, V8, V9, V10, VE, Nat.reduceBEq, Nat.reduceAdd, Nat.reduceSub, Nat.reduceMul, Nat.reduceLeDiff, Nat.reduceLT, Nat.reduceEqDiff, Int.reduceBEq, Int.reduceBNe, Int.reduceLT, Int.reduceLE, Int.reduceAdd, Int.reduceSub, Int.reduceMul]
  refine guardB.mk (fun h => ?_) (fun h => ?_)
  · have h0 : ¬ checkC l 256 = 0 := by simpa using h
    simp only [h0, if_false, Option.isSome_some, VL, VB, BEq.rfl, V1, V2, V3, V4, V5, V6, V7, V8, V9, V10, VE, Nat.reduceBEq, Nat.reduceAdd, Nat.reduceSub, Nat.reduceMul, Nat.reduceLeDiff, Nat.reduceLT, Nat.reduceEqDiff, Int.reduceBEq, Int.reduceBNe, Int.reduceLT, Int.reduceLE, Int.reduceAdd, Int.reduceSub, Int.reduceMul]
  · have h0 : checkC l 256 = 0 := by simpa using h
    simp only [h0, if_true, VL, VB, BEq.rfl, V1, V2, V3, V4, V5, V6, V7, V8, V9, V10, VE, Nat.reduceBEq, Nat.reduceAdd, Nat.reduceSub, Nat.reduceMul, Nat.reduceLeDiff, Nat.reduceLT, Nat.reduceEqDiff, Int.reduceBEq, Int.reduceBNe, Int.reduceLT, Int.reduceLE, Int.reduceAdd, Int.reduceSub, Int.reduceMul]
    have hn : l.length ≤ 256 := by
      unfold checkC at h0
      split at h0
      · cases h0
      · omega
    refine LoopVC.mk (Y := Nat) (fun k => k ≤ l.length) (fun k => ⟨[(0, .c (corrs l)), (14, .c (corrs l)), (15, .c (.sc (.int .i64 l.length))), (5, .osl 1000 0), (16, .c (.sc (.int .i64 k)))], [(1000, .arr 36 0 ((confs fitC l k).map pairD))]⟩) (fun k => l.length - k) ⟨0, Enter.mk [(5, (1000, 36))] [] [] ?_, by omega⟩ ?_
    · simp only [confs, List.range_zero, List.flatMap_nil, Option.isSome_some, VL, VB, BEq.rfl, V1, V2, V3, V4, V5, V6, V7, V8, V9, V10, VE, Nat.reduceBEq, Nat.reduceAdd, Nat.reduceSub, Nat.reduceMul, Nat.reduceLeDiff, Nat.reduceLT, Nat.reduceEqDiff, Int.reduceBEq, Int.reduceBNe, Int.reduceLT, Int.reduceLE, Int.reduceAdd, Int.reduceSub, Int.reduceMul]
      rfl
    intro k hk
    simp only [VL, VB, BEq.rfl, V1, V2, V3, V4, V5, V6, V7, V8, V9, V10, VE, Nat.reduceBEq, Nat.reduceAdd, Nat.reduceSub, Nat.reduceMul, Nat.reduceLeDiff, Nat.reduceLT, Nat.reduceEqDiff, Int.reduceBEq, Int.reduceBNe, Int.reduceLT, Int.reduceLE, Int.reduceAdd, Int.reduceSub, Int.reduceMul]
    refine guardB.mk (fun h => ?_) (fun h => ?_)
    · have hk' : k < l.length := by simpa using h
      obtain ⟨c, hc⟩ : ∃ c, l.getD k Corr.zero = c := ⟨_, rfl⟩
      have hwrap : IntKind.i64.wrap ((k : Int) + 1) = ((k + 1 : Nat) : Int) := by rw [wrap_of (by omega) (by omega)]; rfl
      simp only [getD_corr, hk', hc, hwrap, corr_def, VL, VB, BEq.rfl, V1, V2, V3, V4, V5, V6, V7, V8, V9, V10, VE, Nat.reduceBEq, Nat.reduceAdd, Nat.reduceSub, Nat.reduceMul, Nat.reduceLeDiff, Nat.reduceLT, Nat.reduceEqDiff, Int.reduceBEq, Int.reduceBNe, Int.reduceLT, Int.reduceLE, Int.reduceAdd, Int.reduceSub, Int.reduceMul]
      refine ⟨Int.natCast_nonneg k, ?_⟩
      have hck : cellsAt l k = c.cells := by rw [cellsAt, hc]
      refine LoopVC.mk (Y := Nat) (fun j => k < j ∧ j ≤ l.length) (fun j => ⟨[(0, .c (corrs l)), (14, .c (corrs l)), (15, .c (.sc (.int .i64 l.length))), (16, .c (.sc (.int .i64 k))), (5, .osl 1000 0), (6, .c (.sc (.int .i64 k))), (7, .bp 7 0), (8, .c (.sc (.int .i64 j)))],
        [(1000, .arr 36 0 ((confs fitC l k ++ confRow fitC l k j).map pairD)), (7, .cells [.c (cells c.cells), .c (.sc (.int .i64 c.count))])]⟩) (fun j => l.length - j) ⟨k + 1, Enter.id ?_, by omega, by omega⟩ ?_
      · simp only [confRow_start, VL, VB, BEq.rfl, V1, V2, V3, V4, V5, V6, V7, V8, V9, V10, VE, Nat.reduceBEq, Nat.reduceAdd, Nat.reduceSub, Nat.reduceMul, Nat.reduceLeDiff, Nat.reduceLT, Nat.reduceEqDiff, Int.reduceBEq, Int.reduceBNe, Int.reduceLT, Int.reduceLE, Int.reduceAdd, Int.reduceSub, Int.reduceMul]
      rintro j ⟨hkj, hj⟩
      simp only [VL, VB, BEq.rfl, V1, V2, V3, V4, V5, V6, V7, V8, V9, V10, VE, Nat.reduceBEq, Nat.reduceAdd, Nat.reduceSub, Nat.reduceMul, Nat.reduceLeDiff, Nat.reduceLT, Nat.reduceEqDiff, Int.reduceBEq, Int.reduceBNe, Int.reduceLT, Int.reduceLE, Int.reduceAdd, Int.reduceSub, Int.reduceMul]
      refine guardB.mk (fun h => ?_) (fun h => ?_)
      · have hj' : j < l.length := by simpa using h
        obtain ⟨d, hd⟩ : ∃ d, l.getD j Corr.zero = d := ⟨_, rfl⟩
        have hdj : cellsAt l j = d.cells := by rw [cellsAt, hd]
        have hwj : IntKind.i64.wrap ((j : Int) + 1) = ((j + 1 : Nat) : Int) := by rw [wrap_of (by omega) (by omega)]; rfl
        have hall := confs_len fitC l k
        have hrow := confRow_len fitC l k j
        have hkn : k * l.length ≤ 256 * 256 := Nat.mul_le_mul (by omega) hn
        have hcl : c.cells.length ≤ d.cells.length := by
          have hlist : listC l = true := by
            unfold checkC at h0
            split at h0
            · cases h0
            · split at h0
              · assumption
              · cases h0
          have hh := List.all_eq_true.1 hlist
          have h1 := hh c (by rw [← hc, List.getD, List.getElem?_eq_getElem hk', Option.getD_some]; exact List.getElem_mem hk')
          have h2 := hh d (by rw [← hd, List.getD, List.getElem?_eq_getElem hj', Option.getD_some]; exact List.getElem_mem hj')
          simp only [corrB, Bool.and_eq_true, decide_eq_true_eq] at h1 h2
          omega
        have hs := confRow_succ fitC l k j hkj
        rw [hck, hdj] at hs
        simp only [getD_corr, hj', hd, hwj, corr_def, VL, VB, BEq.rfl, V1, V2, V3, V4, V5, V6, V7, V8, V9, V10, VE, Nat.reduceBEq, Nat.reduceAdd, Nat.reduceSub, Nat.reduceMul, Nat.reduceLeDiff, Nat.reduceLT, Nat.reduceEqDiff, Int.reduceBEq, Int.reduceBNe, Int.reduceLT, Int.reduceLE, Int.reduceAdd, Int.reduceSub, Int.reduceMul]
        refine ⟨Int.natCast_nonneg j, ?_⟩
        refine CallX.mk (fit_ok c.cells d.cells hcl) rfl ?_
        simp only [getD_corr, hj', hd, hwj, corr_def, VL, VB, BEq.rfl, V1, V2, V3, V4, V5, V6, V7, V8, V9, V10, VE, Nat.reduceBEq, Nat.reduceAdd, Nat.reduceSub, Nat.reduceMul, Nat.reduceLeDiff, Nat.reduceLT, Nat.reduceEqDiff, Int.reduceBEq, Int.reduceBNe, Int.reduceLT, Int.reduceLE, Int.reduceAdd, Int.reduceSub, Int.reduceMul]
        refine guardB.mk (fun h2 => ?_) (fun h2 => ?_) <;> simp only [h2, getD_corr, hj', hd, hwj, corr_def, VL, VB, BEq.rfl, V1, V2, V3, V4, V5, V6, V7, V8, V9, V10, VE, Nat.reduceBEq, Nat.reduceAdd, Nat.reduceSub, Nat.reduceMul, Nat.reduceLeDiff, Nat.reduceLT, Nat.reduceEqDiff, Int.reduceBEq, Int.reduceBNe, Int.reduceLT, Int.reduceLE, Int.reduceAdd, Int.reduceSub, Int.reduceMul]
        · rw [show fitC c.cells d.cells = false from by simpa using h2] at hs
          refine ⟨⟨by simp only [List.length_append]; omega, allLen_one rfl⟩, j + 1, Enter.id ?_, ⟨by omega, by omega⟩, by show l.length - (j + 1) < l.length - j; omega⟩
          simp only [hs, List.map_append, List.append_assoc, pairD, Bool.false_eq_true, if_false, getD_corr, hj', hd, hwj, corr_def, VL, VB, BEq.rfl, V1, V2, V3, V4, V5, V6, V7, V8, V9, V10, VE, Nat.reduceBEq, Nat.reduceAdd, Nat.reduceSub, Nat.reduceMul, Nat.reduceLeDiff, Nat.reduceLT, Nat.reduceEqDiff, Int.reduceBEq, Int.reduceBNe, Int.reduceLT, Int.reduceLE, Int.reduceAdd, Int.reduceSub, Int.reduceMul]
        · rw [show fitC c.cells d.cells = true from by simpa using h2] at hs
          refine ⟨j + 1, Enter.id ?_, ⟨by omega, by omega⟩, by show l.length - (j + 1) < l.length - j; omega⟩
          simp only [hs, if_true, List.append_nil, getD_corr, hj', hd, hwj, corr_def, VL, VB, BEq.rfl, V1, V2, V3, V4, V5, V6, V7, V8, V9, V10, VE, Nat.reduceBEq, Nat.reduceAdd, Nat.reduceSub, Nat.reduceMul, Nat.reduceLeDiff, Nat.reduceLT, Nat.reduceEqDiff, Int.reduceBEq, Int.reduceBNe, Int.reduceLT, Int.reduceLE, Int.reduceAdd, Int.reduceSub, Int.reduceMul]
      · have hje : j = l.length := by
          have : ¬ j < l.length := by simpa using h
          omega
        subst hje
        simp only [hwrap, ← confs_succ, VL, VB, BEq.rfl, V1, V2, V3, V4, V5, V6, V7, V8, V9, V10, VE, Nat.reduceBEq, Nat.reduceAdd, Nat.reduceSub, Nat.reduceMul, Nat.reduceLeDiff, Nat.reduceLT, Nat.reduceEqDiff, Int.reduceBEq, Int.reduceBNe, Int.reduceLT, Int.reduceLE, Int.reduceAdd, Int.reduceSub, Int.reduceMul]
        refine ⟨k + 1, Enter.id ?_, by omega, by show l.length - (k + 1) < l.length - k; omega⟩
        simp only [VL, VB, BEq.rfl, V1, V2, V3, V4, V5, V6, V7, V8, V9, V10, VE, Nat.reduceBEq, Nat.reduceAdd, Nat.reduceSub, Nat.reduceMul, Nat.reduceLeDiff, Nat.reduceLT, Nat.reduceEqDiff, Int.reduceBEq, Int.reduceBNe, Int.reduceLT, Int.reduceLE, Int.reduceAdd, Int.reduceSub, Int.reduceMul]
    · have hk' : k = l.length := by
        have : ¬ k < l.length := by simpa using h
        omega
      subst hk'
      simp only [VL, VB, BEq.rfl, V1, V2, V3, V4, V5, V6, V7, V8, V9, V10, VE, Nat.reduceBEq, Nat.reduceAdd, Nat.reduceSub, Nat.reduceMul, Nat.reduceLeDiff, Nat.reduceLT, Nat.reduceEqDiff, Int.reduceBEq, Int.reduceBNe, Int.reduceLT, Int.reduceLE, Int.reduceAdd, Int.reduceSub, Int.reduceMul]

theorem rconflicts_ok (l : List Corr) : Ok Try.prog E 21 [.c (corrs l)] (.tp [.fr 36 (if checkR l 256 = 0 then (confs fitR l l.length).map pairD else []), nv (checkR l 256)]) := by
  refine ok_of_vc (L := []) (ts := [2, 3]) envOK mixed Try.func21 rfl (by kernel_rfl) rfl (by kernel_rfl) rfl fun hl => ?_
  have hx := len_of (hl _ (List.mem_cons_self ..))
  rw [List.length_map] at hx
  simp only [Try.f21, nv, VL, VB, BEq.rfl, V1, V2, V3, V4, V5, V6, V7, V8, V9, V10, VE, Nat.reduceBEq, Nat.reduceAdd, Nat.reduceSub, Nat.reduceMul, Nat.reduceLeDiff, Nat.reduceLT, Nat.reduceEqDiff, Int.reduceBEq, Int.reduceBNe, Int.reduceLT, Int.reduceLE, Int.reduceAdd, Int.reduceSub, Int.reduceMul]
  refine CallX.mk (rcheck_ok l 256) rfl ?_
  simp only [nv, VL, VB, BEq.rfl, V1, V2, V3, V4, V5, V6, V7, V8, V9, V10, VE, Nat.reduceBEq, Nat.reduceAdd, Nat.reduceSub, Nat.reduceMul, Nat.reduceLeDiff, Nat.reduceLT, Nat.reduceEqDiff, Int.reduceBEq, Int.reduceBNe, Int.reduceLT, Int.reduceLE, Int.reduceAdd, Int.reduceSub, Int.reduceMul]
  refine guardB.mk (fun h => ?_) (fun h => ?_)
  · have h0 : ¬ checkR l 256 = 0 := by simpa using h
    simp only [h0, if_false, Option.isSome_some, VL, VB, BEq.rfl, V1, V2, V3, V4, V5, V6, V7, V8, V9, V10, VE, Nat.reduceBEq, Nat.reduceAdd, Nat.reduceSub, Nat.reduceMul, Nat.reduceLeDiff, Nat.reduceLT, Nat.reduceEqDiff, Int.reduceBEq, Int.reduceBNe, Int.reduceLT, Int.reduceLE, Int.reduceAdd, Int.reduceSub, Int.reduceMul]
  · have h0 : checkR l 256 = 0 := by simpa using h
    simp only [h0, if_true, VL, VB, BEq.rfl, V1, V2, V3, V4, V5, V6, V7, V8, V9, V10, VE, Nat.reduceBEq, Nat.reduceAdd, Nat.reduceSub, Nat.reduceMul, Nat.reduceLeDiff, Nat.reduceLT, Nat.reduceEqDiff, Int.reduceBEq, Int.reduceBNe, Int.reduceLT, Int.reduceLE, Int.reduceAdd, Int.reduceSub, Int.reduceMul]
    have hn : l.length ≤ 256 := by
      unfold checkR at h0
      split at h0
      · cases h0
      · omega
    refine LoopVC.mk (Y := Nat) (fun k => k ≤ l.length) (fun k => ⟨[(0, .c (corrs l)), (5, .osl 1000 0), (6, .c (.sc (.int .i64 k)))], [(1000, .arr 36 0 ((confs fitR l k).map pairD))]⟩) (fun k => l.length - k) ⟨0, Enter.mk [(5, (1000, 36))] [] [] ?_, by omega⟩ ?_
    · simp only [confs, List.range_zero, List.flatMap_nil, Option.isSome_some, VL, VB, BEq.rfl, V1, V2, V3, V4, V5, V6, V7, V8, V9, V10, VE, Nat.reduceBEq, Nat.reduceAdd, Nat.reduceSub, Nat.reduceMul, Nat.reduceLeDiff, Nat.reduceLT, Nat.reduceEqDiff, Int.reduceBEq, Int.reduceBNe, Int.reduceLT, Int.reduceLE, Int.reduceAdd, Int.reduceSub, Int.reduceMul]
      rfl
    intro k hk
    simp only [VL, VB, BEq.rfl, V1, V2, V3, V4, V5, V6, V7, V8, V9, V10, VE, Nat.reduceBEq, Nat.reduceAdd, Nat.reduceSub, Nat.reduceMul, Nat.reduceLeDiff, Nat.reduceLT, Nat.reduceEqDiff, Int.reduceBEq, Int.reduceBNe, Int.reduceLT, Int.reduceLE, Int.reduceAdd, Int.reduceSub, Int.reduceMul]
    refine guardB.mk (fun h => ?_) (fun h => ?_)
    · have hk' : k < l.length := by simpa using h
      obtain ⟨c, hc⟩ : ∃ c, l.getD k Corr.zero = c := ⟨_, rfl⟩
      have hwrap : IntKind.i64.wrap ((k : Int) + 1) = ((k + 1 : Nat) : Int) := by rw [wrap_of (by omega) (by omega)]; rfl
      simp only [getD_corr, hk', hc, hwrap, corr_def, VL, VB, BEq.rfl, V1, V2, V3, V4, V5, V6, V7, V8, V9, V10, VE, Nat.reduceBEq, Nat.reduceAdd, Nat.reduceSub, Nat.reduceMul, Nat.reduceLeDiff, Nat.reduceLT, Nat.reduceEqDiff, Int.reduceBEq, Int.reduceBNe, Int.reduceLT, Int.reduceLE, Int.reduceAdd, Int.reduceSub, Int.reduceMul]
      have hck : cellsAt l k = c.cells := by rw [cellsAt, hc]
      refine LoopVC.mk (Y := Nat) (fun j => k < j ∧ j ≤ l.length) (fun j => ⟨[(0, .c (corrs l)), (5, .osl 1000 0), (6, .c (.sc (.int .i64 k))), (7, .c (.sc (.int .i64 j)))],
        [(1000, .arr 36 0 ((confs fitR l k ++ confRow fitR l k j).map pairD))]⟩) (fun j => l.length - j) ⟨k + 1, Enter.id ?_, by omega, by omega⟩ ?_
      · simp only [confRow_start, VL, VB, BEq.rfl, V1, V2, V3, V4, V5, V6, V7, V8, V9, V10, VE, Nat.reduceBEq, Nat.reduceAdd, Nat.reduceSub, Nat.reduceMul, Nat.reduceLeDiff, Nat.reduceLT, Nat.reduceEqDiff, Int.reduceBEq, Int.reduceBNe, Int.reduceLT, Int.reduceLE, Int.reduceAdd, Int.reduceSub, Int.reduceMul]
      rintro j ⟨hkj, hj⟩
      simp only [VL, VB, BEq.rfl, V1, V2, V3, V4, V5, V6, V7, V8, V9, V10, VE, Nat.reduceBEq, Nat.reduceAdd, Nat.reduceSub, Nat.reduceMul, Nat.reduceLeDiff, Nat.reduceLT, Nat.reduceEqDiff, Int.reduceBEq, Int.reduceBNe, Int.reduceLT, Int.reduceLE, Int.reduceAdd, Int.reduceSub, Int.reduceMul]
      refine guardB.mk (fun h => ?_) (fun h => ?_)
      · have hj' : j < l.length := by simpa using h
        obtain ⟨d, hd⟩ : ∃ d, l.getD j Corr.zero = d := ⟨_, rfl⟩
        have hdj : cellsAt l j = d.cells := by rw [cellsAt, hd]
        have hwj : IntKind.i64.wrap ((j : Int) + 1) = ((j + 1 : Nat) : Int) := by rw [wrap_of (by omega) (by omega)]; rfl
        have hall := confs_len fitR l k
        have hrow := confRow_len fitR l k j
        have hkn : k * l.length ≤ 256 * 256 := Nat.mul_le_mul (by omega) hn
        have hcl : c.cells.length ≤ d.cells.length := by
          have hlist : listR l = true := by
            unfold checkR at h0
            split at h0
            · cases h0
            · split at h0
              · assumption
              · cases h0
          have hh := List.all_eq_true.1 hlist
          have h1 := hh c (by rw [← hc, List.getD, List.getElem?_eq_getElem hk', Option.getD_some]; exact List.getElem_mem hk')
          have h2 := hh d (by rw [← hd, List.getD, List.getElem?_eq_getElem hj', Option.getD_some]; exact List.getElem_mem hj')
          simp only [corrD, Bool.and_eq_true, decide_eq_true_eq] at h1 h2
          omega
        have hs := confRow_succ fitR l k j hkj
        rw [hck, hdj] at hs
        simp only [getD_corr, hj', hk', hc, hd, hwj, corr_def, VL, VB, BEq.rfl, V1, V2, V3, V4, V5, V6, V7, V8, V9, V10, VE, Nat.reduceBEq, Nat.reduceAdd, Nat.reduceSub, Nat.reduceMul, Nat.reduceLeDiff, Nat.reduceLT, Nat.reduceEqDiff, Int.reduceBEq, Int.reduceBNe, Int.reduceLT, Int.reduceLE, Int.reduceAdd, Int.reduceSub, Int.reduceMul]
        refine ⟨Int.natCast_nonneg k, Int.natCast_nonneg j, ?_⟩
        refine CallX.mk (rfit_ok c.cells d.cells hcl) rfl ?_
        simp only [getD_corr, hj', hk', hc, hd, hwj, corr_def, VL, VB, BEq.rfl, V1, V2, V3, V4, V5, V6, V7, V8, V9, V10, VE, Nat.reduceBEq, Nat.reduceAdd, Nat.reduceSub, Nat.reduceMul, Nat.reduceLeDiff, Nat.reduceLT, Nat.reduceEqDiff, Int.reduceBEq, Int.reduceBNe, Int.reduceLT, Int.reduceLE, Int.reduceAdd, Int.reduceSub, Int.reduceMul]
        refine guardB.mk (fun h2 => ?_) (fun h2 => ?_) <;> simp only [h2, getD_corr, hj', hk', hc, hd, hwj, corr_def, VL, VB, BEq.rfl, V1, V2, V3, V4, V5, V6, V7, V8, V9, V10, VE, Nat.reduceBEq, Nat.reduceAdd, Nat.reduceSub, Nat.reduceMul, Nat.reduceLeDiff, Nat.reduceLT, Nat.reduceEqDiff, Int.reduceBEq, Int.reduceBNe, Int.reduceLT, Int.reduceLE, Int.reduceAdd, Int.reduceSub, Int.reduceMul]
        · rw [show fitR c.cells d.cells = false from by simpa using h2] at hs
          refine ⟨⟨by simp only [List.length_append]; omega, allLen_one rfl⟩, j + 1, Enter.id ?_, ⟨by omega, by omega⟩, by show l.length - (j + 1) < l.length - j; omega⟩
          simp only [hs, List.map_append, List.append_assoc, pairD, Bool.false_eq_true, if_false, getD_corr, hj', hk', hc, hd, hwj, corr_def, VL, VB, BEq.rfl, V1, V2, V3, V4, V5, V6, V7, V8, V9, V10, VE, Nat.reduceBEq, Nat.reduceAdd, Nat.reduceSub, Nat.reduceMul, Nat.reduceLeDiff, Nat.reduceLT, Nat.reduceEqDiff, Int.reduceBEq, Int.reduceBNe, Int.reduceLT, Int.reduceLE, Int.reduceAdd, Int.reduceSub, Int.reduceMul]
        · rw [show fitR c.cells d.cells = true from by simpa using h2] at hs
          refine ⟨j + 1, Enter.id ?_, ⟨by omega, by omega⟩, by show l.length - (j + 1) < l.length - j; omega⟩
          simp only [hs, if_true, List.append_nil, getD_corr, hj', hk', hc, hd, hwj, corr_def, VL, VB, BEq.rfl, V1, V2, V3, V4, V5, V6, V7, V8, V9, V10, VE, Nat.reduceBEq, Nat.reduceAdd, Nat.reduceSub, Nat.reduceMul, Nat.reduceLeDiff, Nat.reduceLT, Nat.reduceEqDiff, Int.reduceBEq, Int.reduceBNe, Int.reduceLT, Int.reduceLE, Int.reduceAdd, Int.reduceSub, Int.reduceMul]
      · have hje : j = l.length := by
          have : ¬ j < l.length := by simpa using h
          omega
        subst hje
        simp only [hwrap, ← confs_succ, VL, VB, BEq.rfl, V1, V2, V3, V4, V5, V6, V7, V8, V9, V10, VE, Nat.reduceBEq, Nat.reduceAdd, Nat.reduceSub, Nat.reduceMul, Nat.reduceLeDiff, Nat.reduceLT, Nat.reduceEqDiff, Int.reduceBEq, Int.reduceBNe, Int.reduceLT, Int.reduceLE, Int.reduceAdd, Int.reduceSub, Int.reduceMul]
        refine ⟨k + 1, Enter.id ?_, by omega, by show l.length - (k + 1) < l.length - k; omega⟩
        simp only [VL, VB, BEq.rfl, V1, V2, V3, V4, V5, V6, V7, V8, V9, V10, VE, Nat.reduceBEq, Nat.reduceAdd, Nat.reduceSub, Nat.reduceMul, Nat.reduceLeDiff, Nat.reduceLT, Nat.reduceEqDiff, Int.reduceBEq, Int.reduceBNe, Int.reduceLT, Int.reduceLE, Int.reduceAdd, Int.reduceSub, Int.reduceMul]
    · have hk' : k = l.length := by
        have : ¬ k < l.length := by simpa using h
        omega
      subst hk'
      simp only [VL, VB, BEq.rfl, V1, V2, V3, V4, V5, V6, V7, V8, V9, V10, VE, Nat.reduceBEq, Nat.reduceAdd, Nat.reduceSub, Nat.reduceMul, Nat.reduceLeDiff, Nat.reduceLT, Nat.reduceEqDiff, Int.reduceBEq, Int.reduceBNe, Int.reduceLT, Int.reduceLE, Int.reduceAdd, Int.reduceSub, Int.reduceMul]

end Go.Cp
end
