/-
  Syll: sounds, words and rules as data; valid sounds. Conditions: none.
  Syll: the document's valid sounds. Conditions: none.
  Syll: whether a sound satisfies a condition. Conditions: none.
  Syll: valid words, valid rules. Conditions: none.
  Syll: sonority. Conditions: none.
-/
import Derived.Test.YtmiieofmhncfbaaMD
import Derived.Laws.BitsLemmas
import Derived.Laws.BitsAllLaws

section
set_option linter.unusedVariables false
set_option linter.unusedSimpArgs false
set_option maxHeartbeats 4000000
set_option maxRecDepth 10000
namespace Go.Cp
open Go Go.Proofs Go.Vx

structure Snd where
  plus : Nat
  minus : Nat
  deriving DecidableEq
def Snd.enc (c : Snd) : List D := [.sc (.int .u32 c.plus), .sc (.int .u32 c.minus)]
def Snd.zero : Snd := ⟨0, 0⟩
/-- as the type has it -/
def Snd.In (c : Snd) : Prop := c.plus < 4294967296 ∧ c.minus < 4294967296
abbrev word (xs : List Snd) : D := .sl (xs.map Snd.enc)
def num (n : Int) : List D := [.sc (.int .i64 n)]
abbrev nums (xs : List Int) : D := .sl (xs.map num)
def nat (n : Nat) : List D := [.sc (.int .i64 n)]
abbrev nats (xs : List Nat) : D := .sl (xs.map nat)
def zv (n : Int) : AV := .c (.sc (.int .i64 n))
def nv (n : Nat) : AV := .c (.sc (.int .i64 n))
def bv (b : Bool) : AV := .c (.sc (.bool b))
def sv (s : ByteArray) : AV := .c (.sc (.string s))
/-- a rule: the scale, the peak -/
abbrev ruleD (sc : List Snd) (p : Int) : List D := [word sc, .sc (.int .i64 p)]
theorem getD_snd (xs : List Snd) (k : Nat) (h : k < xs.length) : (xs.map Snd.enc).getD k [] = (xs.getD k Snd.zero).enc := by
  simp [List.getD, List.getElem?_map, List.getElem?_eq_getElem h]
theorem getD_num (xs : List Int) (k : Nat) (h : k < xs.length) : (xs.map num).getD k [] = num (xs.getD k 0) := by
  simp [List.getD, List.getElem?_map, List.getElem?_eq_getElem h]
theorem getD_nat (xs : List Nat) (k : Nat) (h : k < xs.length) : (xs.map nat).getD k [] = nat (xs.getD k 0) := by
  simp [List.getD, List.getElem?_map, List.getElem?_eq_getElem h]
theorem snd_def (c : Snd) : c.enc = [.sc (.int .u32 c.plus), .sc (.int .u32 c.minus)] := rfl
theorem num_def (n : Int) : num n = [.sc (.int .i64 n)] := rfl
theorem nat_def (n : Nat) : nat n = [.sc (.int .i64 n)] := rfl
theorem getD_of {α : Type} (z : α) (l : List α) (k : Nat) (h : k < l.length) : l.getD k z = l[k] := by simp [List.getD, h]
theorem len_of {xs : List (List D)} (h : LenA (.c (.sl xs))) : xs.length ≤ 9223372036854775807 := by
  have h : LenD (.sl xs) := h
  cases h with
  | sl _ h _ => exact h
theorem wrap_of {n : Int} (h : 0 ≤ n) (h' : n ≤ 9223372036854775807) : IntKind.i64.wrap n = n := by
  rw [IntKind.wrap_i64]; omega
theorem wrap_in {n : Int} (h : -9223372036854775808 ≤ n) (h' : n ≤ 9223372036854775807) : IntKind.i64.wrap n = n := by
  rw [IntKind.wrap_i64]; omega
theorem wrap_nat {k : Nat} (h : (k : Int) + 1 ≤ 9223372036854775807) : IntKind.i64.wrap ((k : Int) + 1) = ((k + 1 : Nat) : Int) := by
  rw [IntKind.wrap_i64]; omega
theorem int_beq (x y : Int) : (x == y) = decide (x = y) := rfl
theorem lt_nat (a b : Nat) : decide ((a : Int) < (b : Int)) = decide (a < b) := by simp
theorem le_nat (a b : Nat) : decide ((a : Int) ≤ (b : Int)) = decide (a ≤ b) := by simp
theorem eq_nat (a b : Nat) : decide ((a : Int) = (b : Int)) = decide (a = b) := by congr 1; exact propext ⟨fun h => by omega, fun h => by omega⟩
theorem snd_beq (x y : Snd) : (((x.plus : Int) == y.plus) && ((x.minus : Int) == y.minus)) = decide (x = y) := by
  cases x; cases y
  simp only [Snd.mk.injEq, Bool.decide_and, int_beq]
  rw [eq_nat, eq_nat]
theorem all_range_succ {p : Nat → Bool} {k : Nat} : (List.range (k + 1)).all p = ((List.range k).all p && p k) := by
  rw [List.range_succ, List.all_append]; simp
theorem all_range_false {p : Nat → Bool} {n k : Nat} (h : k < n) (hp : p k = false) : (List.range n).all p = false := by
  rw [List.all_eq_false]
  exact ⟨k, by simpa using h, by rw [hp]; simp⟩
theorem all_take_succ {α : Type} {l : List α} {k : Nat} (z : α) (h : k < l.length) (p : α → Bool) : (l.take (k + 1)).all p = ((l.take k).all p && p (l.getD k z)) := by
  rw [List.take_add_one, List.getElem?_eq_getElem h, List.all_append, getD_of z l k h]; simp
theorem all_false_at {α : Type} {l : List α} {k : Nat} (z : α) (h : k < l.length) {p : α → Bool} (hp : p (l.getD k z) = false) : l.all p = false := by
  rw [List.all_eq_false]
  exact ⟨l.getD k z, by rw [getD_of z l k h]; exact List.getElem_mem _, by rw [hp]; simp⟩

/-! valid sounds -/
def okS (c : Snd) : Bool := decide (c.plus &&& c.minus = 0) && decide (c.plus ||| c.minus ≤ 16777215)
theorem and0 {c : Snd} (h : c.In) : (bits .and .u32 (c.plus : Int) (c.minus : Int) == 0) = decide (c.plus &&& c.minus = 0) := by
  rw [u32_and_nat _ _ h.1 h.2, int_beq]
  congr 1; exact propext ⟨fun h => by exact_mod_cast h, fun h => by exact_mod_cast h⟩
theorem orle {c : Snd} (h : c.In) : decide (bits .or .u32 (c.plus : Int) (c.minus : Int) ≤ 16777215) = decide (c.plus ||| c.minus ≤ 16777215) := by
  rw [u32_or_nat _ _ h.1 h.2]
  generalize c.plus ||| c.minus = x
  congr 1; exact propext ⟨fun h => by omega, fun h => by omega⟩
theorem orshr {c : Snd} (h : c.In) : ((bits .or .u32 (c.plus : Int) (c.minus : Int)).fdiv 16777216 == 0) = decide (c.plus ||| c.minus ≤ 16777215) := by
  rw [u32_or_nat _ _ h.1 h.2, int_beq, Int.fdiv_eq_ediv_of_nonneg _ (by decide)]
  generalize c.plus ||| c.minus = x
  congr 1; exact propext ⟨fun h => by omega, fun h => by omega⟩
theorem lt24 {c : Snd} (h : c.In) : (decide ((c.plus : Int) < 16777216) && decide ((c.minus : Int) < 16777216)) = decide (c.plus ||| c.minus ≤ 16777215) := by
  rw [Bool.eq_iff_iff]
  simp only [Bool.and_eq_true, decide_eq_true_eq]
  have e : (2 : Nat) ^ 24 = 16777216 := by decide
  constructor
  · rintro ⟨h1, h2⟩
    have := Nat.or_lt_two_pow (n := 24) (x := c.plus) (y := c.minus) (by omega) (by omega)
    omega
  · intro h1
    have h2 : c.plus ≤ c.plus ||| c.minus := Nat.left_le_or
    have h3 : c.minus ≤ c.plus ||| c.minus := Nat.right_le_or
    generalize c.plus ||| c.minus = x at h1 h2 h3
    omega

theorem valid_ok (c : Snd) (h : c.In) : Ok Try.prog E 45 [.ag c.enc] (bv (okS c)) := by
  refine ok_of_vc (L := []) (ts := [2]) envOK mixed Try.func45 rfl (by kernel_rfl) rfl (by kernel_rfl) rfl fun hl => ?_
  simp only [Try.f45, snd_def, okS, and0 h, orle h, word, nums, nats, zv, nv, bv, sv, VL, VB, BEq.rfl, V1, V2, V3, V4, V5, V6, V7, V8, V9, V10, V11, V12, V13, VE, Nat.reduceBEq, Nat.reduceAdd, Nat.reduceSub, Nat.reduceMul, Nat.reduceLeDiff, Nat.reduceLT, Nat.reduceEqDiff, Int.reduceBEq, Int.reduceBNe, Int.reduceLT, Int.reduceLE, Int.reduceAdd, Int.reduceSub, Int.reduceMul, kAgg, scD, List.all_cons, List.all_nil]
  refine guardB.mk (fun h2 => ?_) (fun h2 => ?_) <;> simp only [h2, orle h, word, nums, nats, zv, nv, bv, sv, VL, VB, BEq.rfl, V1, V2, V3, V4, V5, V6, V7, V8, V9, V10, V11, V12, V13, VE, Nat.reduceBEq, Nat.reduceAdd, Nat.reduceSub, Nat.reduceMul, Nat.reduceLeDiff, Nat.reduceLT, Nat.reduceEqDiff, Int.reduceBEq, Int.reduceBNe, Int.reduceLT, Int.reduceLE, Int.reduceAdd, Int.reduceSub, Int.reduceMul, kAgg, scD, List.all_cons, List.all_nil]
theorem wvalid_ok (c : Snd) (h : c.In) : Ok Try.prog E 68 [.ag c.enc] (bv (okS c)) := by
  refine ok_of_vc (L := []) (ts := [2]) envOK mixed Try.func68 rfl (by kernel_rfl) rfl (by kernel_rfl) rfl fun hl => ?_
  have e : (2 : Int) ^ (min (Int.toNat 24) IntKind.u32.bits) = 16777216 := by decide
  simp only [Try.f68, snd_def, okS, and0 h, word, nums, nats, zv, nv, bv, sv, VL, VB, BEq.rfl, V1, V2, V3, V4, V5, V6, V7, V8, V9, V10, V11, V12, V13, VE, Nat.reduceBEq, Nat.reduceAdd, Nat.reduceSub, Nat.reduceMul, Nat.reduceLeDiff, Nat.reduceLT, Nat.reduceEqDiff, Int.reduceBEq, Int.reduceBNe, Int.reduceLT, Int.reduceLE, Int.reduceAdd, Int.reduceSub, Int.reduceMul, kAgg, scD, List.all_cons, List.all_nil]
  refine guardB.mk (fun h2 => ?_) (fun h2 => ?_) <;> simp only [h2, e, orshr h, word, nums, nats, zv, nv, bv, sv, VL, VB, BEq.rfl, V1, V2, V3, V4, V5, V6, V7, V8, V9, V10, V11, V12, V13, VE, Nat.reduceBEq, Nat.reduceAdd, Nat.reduceSub, Nat.reduceMul, Nat.reduceLeDiff, Nat.reduceLT, Nat.reduceEqDiff, Int.reduceBEq, Int.reduceBNe, Int.reduceLT, Int.reduceLE, Int.reduceAdd, Int.reduceSub, Int.reduceMul, kAgg, scD, List.all_cons, List.all_nil]
theorem rwvalid_ok (c : Snd) (h : c.In) : Ok Try.prog E 67 [.ag c.enc] (bv (okS c)) := by
  refine ok_of_vc (L := []) (ts := [2]) envOK mixed Try.func67 rfl (by kernel_rfl) rfl (by kernel_rfl) rfl fun hl => ?_
  rw [okS, ← lt24 h]
  obtain ⟨x, hx⟩ : ∃ x, decide ((c.plus : Int) < 16777216) = x := ⟨_, rfl⟩
  obtain ⟨y, hy⟩ : ∃ y, decide ((c.minus : Int) < 16777216) = y := ⟨_, rfl⟩
  rw [hx, hy]
  simp only [Try.f67, snd_def, and0 h, hx, hy, word, nums, nats, zv, nv, bv, sv, VL, VB, BEq.rfl, V1, V2, V3, V4, V5, V6, V7, V8, V9, V10, V11, V12, V13, VE, Nat.reduceBEq, Nat.reduceAdd, Nat.reduceSub, Nat.reduceMul, Nat.reduceLeDiff, Nat.reduceLT, Nat.reduceEqDiff, Int.reduceBEq, Int.reduceBNe, Int.reduceLT, Int.reduceLE, Int.reduceAdd, Int.reduceSub, Int.reduceMul, kAgg, scD, List.all_cons, List.all_nil]
  refine guardB.mk (fun h2 => ?_) (fun h2 => ?_) <;> simp only [h2, hx, word, nums, nats, zv, nv, bv, sv, VL, VB, BEq.rfl, V1, V2, V3, V4, V5, V6, V7, V8, V9, V10, V11, V12, V13, VE, Nat.reduceBEq, Nat.reduceAdd, Nat.reduceSub, Nat.reduceMul, Nat.reduceLeDiff, Nat.reduceLT, Nat.reduceEqDiff, Int.reduceBEq, Int.reduceBNe, Int.reduceLT, Int.reduceLE, Int.reduceAdd, Int.reduceSub, Int.reduceMul, kAgg, scD, List.all_cons, List.all_nil]
  cases x <;> simp only [hy, word, nums, nats, zv, nv, bv, sv, VL, VB, BEq.rfl, V1, V2, V3, V4, V5, V6, V7, V8, V9, V10, V11, V12, V13, VE, Nat.reduceBEq, Nat.reduceAdd, Nat.reduceSub, Nat.reduceMul, Nat.reduceLeDiff, Nat.reduceLT, Nat.reduceEqDiff, Int.reduceBEq, Int.reduceBNe, Int.reduceLT, Int.reduceLE, Int.reduceAdd, Int.reduceSub, Int.reduceMul, kAgg, scD, List.all_cons, List.all_nil]

end Go.Cp
end

section
set_option linter.unusedVariables false
set_option linter.unusedSimpArgs false
set_option maxHeartbeats 4000000
set_option maxRecDepth 10000
namespace Go.Cp
open Go Go.Proofs Go.Vx

theorem all_false {α : Type} {xs : List α} {p : α → Bool} {k : Nat} {z : α} (hk : k < xs.length) (h : p (xs.getD k z) = false) : xs.all p = false := by
  rw [List.all_eq_false]
  refine ⟨xs.getD k z, ?_, by rw [h]; simp⟩
  simp [List.getD, List.getElem?_eq_getElem hk]
theorem all_true {α : Type} {xs : List α} {p : α → Bool} {k : Nat} (hk : ¬ k < xs.length) (h : ∀ i < k, ∀ x, xs[i]? = some x → p x = true) : xs.all p = true := by
  rw [List.all_eq_true]
  intro x hx
  obtain ⟨i, hi⟩ := List.getElem?_of_mem hx
  exact h i (by have := (List.getElem?_eq_some_iff.1 hi).1; omega) x hi
theorem all_next {α : Type} {xs : List α} {p : α → Bool} {k : Nat} {z : α} (hk : k < xs.length) (h : ∀ i < k, ∀ x, xs[i]? = some x → p x = true) (h' : p (xs.getD k z) = true) : ∀ i < k + 1, ∀ x, xs[i]? = some x → p x = true := by
  intro i hi x hx
  by_cases hik : i = k
  · subst hik
    rw [List.getD, hx] at h'
    exact h'
  · exact h i (by omega) x hx

def bitZ (p : Int) (f : Nat) : Bool := decide (bits .and .u32 (p.fdiv (2 ^ (min f 32))) 1 = 1)
def badF (p m : Int) (f : Nat) : Bool := (bitZ p f && bitZ m f) || ((bitZ p f || bitZ m f) && decide (24 ≤ f))
def validR (p m : Int) : Bool := (List.range 32).all fun f => !badF p m f

theorem range_getD {n k : Nat} (h : k < n) : (List.range n).getD k 0 = k := by simp [List.getD, h]

theorem rvalidR_ok (p m : Int) : Ok Try.prog E 46 [.ag [.sc (.int .u32 p), .sc (.int .u32 m)]] (.c (.sc (.bool (validR p m)))) := by
  refine ok_of_vc (L := []) (ts := [2]) envOK mixed Try.func46 rfl (by kernel_rfl) rfl (by kernel_rfl) rfl fun hl => ?_
  simp only [Try.f46, VL, VB, BEq.rfl, V1, V2, V3, V4, V5, V6, V7, V8, V9, V10, V11, V12, V13, VE, Nat.reduceBEq, Nat.reduceAdd, Nat.reduceSub, Nat.reduceMul, Nat.reduceLeDiff, Nat.reduceLT, Nat.reduceEqDiff, Int.reduceBEq, Int.reduceBNe, Int.reduceLT, Int.reduceLE, Int.reduceAdd, Int.reduceSub, Int.reduceMul, kAgg, scD, List.all_cons, List.all_nil]
  refine LoopVC.mk (Y := Nat) (fun k => k ≤ 32 ∧ ∀ i < k, ∀ x, (List.range 32)[i]? = some x → (!badF p m x) = true) (fun k => ⟨[(1, .bp 1 0), (3, .c (.sc (.int .i64 k)))], [(1, .cells [.c (.sc (.int .u32 p)), .c (.sc (.int .u32 m))])]⟩) (fun k => 32 - k) ⟨0, Enter.id ?_, by omega, by omega⟩ ?_
  · simp only [VL, VB, BEq.rfl, V1, V2, V3, V4, V5, V6, V7, V8, V9, V10, V11, V12, V13, VE, Nat.reduceBEq, Nat.reduceAdd, Nat.reduceSub, Nat.reduceMul, Nat.reduceLeDiff, Nat.reduceLT, Nat.reduceEqDiff, Int.reduceBEq, Int.reduceBNe, Int.reduceLT, Int.reduceLE, Int.reduceAdd, Int.reduceSub, Int.reduceMul, kAgg, scD, List.all_cons, List.all_nil]
    rfl
  rintro k ⟨hk, hpre⟩
  simp only [VL, VB, BEq.rfl, V1, V2, V3, V4, V5, V6, V7, V8, V9, V10, V11, V12, V13, VE, Nat.reduceBEq, Nat.reduceAdd, Nat.reduceSub, Nat.reduceMul, Nat.reduceLeDiff, Nat.reduceLT, Nat.reduceEqDiff, Int.reduceBEq, Int.reduceBNe, Int.reduceLT, Int.reduceLE, Int.reduceAdd, Int.reduceSub, Int.reduceMul, kAgg, scD, List.all_cons, List.all_nil]
  refine guardB.mk (fun h => ?_) (fun h => ?_)
  · have hk' : k < 32 := by
      have : (k : Int) < 32 := by simpa using h
      omega
    have hb : ∀ q : Int, (bits .and .u32 (q.fdiv (2 ^ (min k IntKind.u32.bits))) 1 == 1) = bitZ q k := fun q => rfl
    have hwrap : IntKind.i64.wrap ((k : Int) + 1) = ((k + 1 : Nat) : Int) := by rw [wrap_of (by omega) (by omega)]; rfl
    have hge : decide ((24 : Int) ≤ (k : Int)) = decide (24 ≤ k) := by congr 1; exact propext ⟨fun h => by omega, fun h => by omega⟩
    have hno : badF p m k = true → D.sc (Value.bool false) = D.sc (Value.bool (validR p m)) := fun hf => by rw [validR, all_false (k := k) (z := 0) (by rw [List.length_range]; omega) (by rw [range_getD hk', hf]; rfl)]
    have hyes : badF p m k = false → ∀ i < k + 1, ∀ x, (List.range 32)[i]? = some x → (!badF p m x) = true := fun hf => all_next (z := 0) (by rw [List.length_range]; omega) hpre (by rw [range_getD hk', hf]; rfl)
    obtain ⟨x, hx⟩ : ∃ x, bitZ p k = x := ⟨_, rfl⟩
    obtain ⟨y, hy⟩ : ∃ y, bitZ m k = y := ⟨_, rfl⟩
    obtain ⟨z, hz⟩ : ∃ z, decide (24 ≤ k) = z := ⟨_, rfl⟩
    have hbad : badF p m k = ((x && y) || ((x || y) && z)) := by rw [badF, hx, hy, hz]
    simp only [hb, hx, hy, hge, hz, hwrap, VL, VB, BEq.rfl, V1, V2, V3, V4, V5, V6, V7, V8, V9, V10, V11, V12, V13, VE, Nat.reduceBEq, Nat.reduceAdd, Nat.reduceSub, Nat.reduceMul, Nat.reduceLeDiff, Nat.reduceLT, Nat.reduceEqDiff, Int.reduceBEq, Int.reduceBNe, Int.reduceLT, Int.reduceLE, Int.reduceAdd, Int.reduceSub, Int.reduceMul, kAgg, scD, List.all_cons, List.all_nil]
    refine ⟨Int.natCast_nonneg k, Int.natCast_nonneg k, ?_⟩
    cases x <;> cases y <;> cases z <;> simp only [hb, hx, hy, hge, hz, hwrap, VL, VB, BEq.rfl, V1, V2, V3, V4, V5, V6, V7, V8, V9, V10, V11, V12, V13, VE, Nat.reduceBEq, Nat.reduceAdd, Nat.reduceSub, Nat.reduceMul, Nat.reduceLeDiff, Nat.reduceLT, Nat.reduceEqDiff, Int.reduceBEq, Int.reduceBNe, Int.reduceLT, Int.reduceLE, Int.reduceAdd, Int.reduceSub, Int.reduceMul, kAgg, scD, List.all_cons, List.all_nil]
    all_goals first
      | exact hno hbad
      | (refine ⟨k + 1, Enter.id ?_, ⟨by omega, hyes hbad⟩, by show 32 - (k + 1) < 32 - k; omega⟩
         simp only [VL, VB, BEq.rfl, V1, V2, V3, V4, V5, V6, V7, V8, V9, V10, V11, V12, V13, VE, Nat.reduceBEq, Nat.reduceAdd, Nat.reduceSub, Nat.reduceMul, Nat.reduceLeDiff, Nat.reduceLT, Nat.reduceEqDiff, Int.reduceBEq, Int.reduceBNe, Int.reduceLT, Int.reduceLE, Int.reduceAdd, Int.reduceSub, Int.reduceMul, kAgg, scD, List.all_cons, List.all_nil])
  · simp only [VL, VB, BEq.rfl, V1, V2, V3, V4, V5, V6, V7, V8, V9, V10, V11, V12, V13, VE, Nat.reduceBEq, Nat.reduceAdd, Nat.reduceSub, Nat.reduceMul, Nat.reduceLeDiff, Nat.reduceLT, Nat.reduceEqDiff, Int.reduceBEq, Int.reduceBNe, Int.reduceLT, Int.reduceLE, Int.reduceAdd, Int.reduceSub, Int.reduceMul, kAgg, scD, List.all_cons, List.all_nil]
    have hk' : ¬ k < 32 := by
      have : ¬ (k : Int) < 32 := by simpa using h
      omega
    rw [validR, all_true (by rw [List.length_range]; exact hk') hpre]

theorem wraps_u32' (n : Int) (h₀ : 0 ≤ n) (h₁ : n < 2 ^ 32) : IntKind.u32.wrap n = n := by rw [IntKind.wrap_u32]; omega
theorem bitZ_nat (a f : Nat) (ha : a < 2 ^ 32) (hf : f < 32) : bitZ (a : Int) f = Nat.testBit a f := by
  have h1 : ((a : Int).fdiv (2 ^ (min f 32))) = ((a / 2 ^ f : Nat) : Int) := by
    rw [Nat.min_eq_left (by omega), Int.fdiv_eq_ediv_of_nonneg _ (by exact_mod_cast Nat.zero_le _)]
    simp
  have hlt : a / 2 ^ f < 2 ^ 32 := Nat.lt_of_le_of_lt (Nat.div_le_self _ _) ha
  have h2 := (bits_nat .u32 32 (by decide) wraps_u32' (a / 2 ^ f) 1 hlt (by decide)).1
  have h2 : bits .and .u32 ((a / 2 ^ f : Nat) : Int) 1 = ((a / 2 ^ f &&& 1 : Nat) : Int) := h2
  rw [bitZ, h1, h2, Nat.and_one_is_mod, Nat.testBit_eq_decide_div_mod_eq]
  congr 1
  exact propext ⟨fun h => by omega, fun h => by omega⟩

theorem valid_same (a b : Nat) (ha : a < 2 ^ 32) (hb : b < 2 ^ 32) : validR a b = okS ⟨a, b⟩ := by
  have hand := (bits_nat .u32 32 (by decide) wraps_u32' a b ha hb).1
  have hor := (bits_nat .u32 32 (by decide) wraps_u32' a b ha hb).2
  rw [Bool.eq_iff_iff]
  simp only [validR, okS, List.all_eq_true, List.mem_range, Bool.not_eq_true', Bool.and_eq_true, decide_eq_true_eq, hand, hor]
  have hbit : ∀ f, f < 32 → badF a b f = ((Nat.testBit a f && Nat.testBit b f) || ((Nat.testBit a f || Nat.testBit b f) && decide (24 ≤ f))) := fun f hf => by rw [badF, bitZ_nat a f ha hf, bitZ_nat b f hb hf]
  constructor
  · intro h
    have h0 : a &&& b = 0 := by
      apply Nat.eq_of_testBit_eq
      intro f
      rw [Nat.testBit_and, Nat.zero_testBit]
      by_cases hf : f < 32
      · have := h f hf
        rw [hbit f hf] at this
        simp only [Bool.or_eq_false_iff] at this
        exact this.1
      · rw [Nat.testBit_lt_two_pow (Nat.lt_of_lt_of_le ha (Nat.pow_le_pow_right (by decide) (by omega)))]
        rfl
    have h1 : a ||| b < 2 ^ 24 := by
      apply Nat.lt_pow_two_of_testBit
      intro f hf24
      rw [Nat.testBit_or]
      by_cases hf : f < 32
      · have := h f hf
        rw [hbit f hf] at this
        simp only [Bool.or_eq_false_iff, Bool.and_eq_false_iff, decide_eq_false_iff_not] at this
        rcases this.2 with h2 | h2
        · simp only [Bool.or_eq_false_iff]; exact h2
        · exact (h2 hf24).elim
      · rw [Nat.testBit_lt_two_pow (Nat.lt_of_lt_of_le ha (Nat.pow_le_pow_right (by decide) (by omega))), Nat.testBit_lt_two_pow (Nat.lt_of_lt_of_le hb (Nat.pow_le_pow_right (by decide) (by omega)))]
        rfl
    refine ⟨h0, ?_⟩
    have h1' : a ||| b ≤ 16777215 := by
      have : (2 : Nat) ^ 24 = 16777216 := by decide
      omega
    clear h h0 h1 hbit hand hor
    generalize a ||| b = c at h1' ⊢
    omega
  · rintro ⟨h0, h1⟩ f hf
    have h0 : a &&& b = 0 := by exact_mod_cast h0
    have h1 : a ||| b ≤ 16777215 := by
      clear hand hor h0 hbit
      generalize a ||| b = c at h1 ⊢
      omega
    rw [hbit f hf]
    have hb1 : (Nat.testBit a f && Nat.testBit b f) = false := by rw [← Nat.testBit_and, h0, Nat.zero_testBit]
    rw [hb1, Bool.false_or]
    by_cases hf24 : 24 ≤ f
    · have : Nat.testBit (a ||| b) f = false := by
        apply Nat.testBit_lt_two_pow
        have h2 : (2 : Nat) ^ 24 ≤ 2 ^ f := Nat.pow_le_pow_right (by decide) hf24
        have h3 : (2 : Nat) ^ 24 = 16777216 := by decide
        omega
      rw [Nat.testBit_or] at this
      rw [this, Bool.false_and]
    · rw [decide_eq_false hf24, Bool.and_false]

theorem rvalid_ok (c : Snd) (h : c.In) : Ok Try.prog E 46 [.ag c.enc] (bv (okS c)) := by
  have h2 := rvalidR_ok c.plus c.minus
  rw [valid_same _ _ (by have := h.1; omega) (by have := h.2; omega)] at h2
  exact h2

end Go.Cp
end

section
set_option linter.unusedVariables false
set_option linter.unusedSimpArgs false
set_option maxHeartbeats 4000000
set_option maxRecDepth 10000
namespace Go.Cp
open Go Go.Proofs Go.Vx

def satM (s c : Snd) : Bool := decide (c.plus &&& (4294967295 - s.plus) = 0) && decide (c.minus &&& (4294967295 - s.minus) = 0)
def satB (s c : Snd) : Bool := okS s && (okS c && satM s c)
theorem andN (a b : Nat) (ha : a < 4294967296) (hb : b < 4294967296) : (bits .andNot .u32 (a : Int) (b : Int) == 0) = decide (a &&& (4294967295 - b) = 0) := by
  rw [u32_andNot_nat _ _ ha hb, int_beq]
  congr 1; exact propext ⟨fun h => by exact_mod_cast h, fun h => by exact_mod_cast h⟩
theorem sat_ok (s c : Snd) (hs : s.In) (hc : c.In) : Ok Try.prog E 60 [.ag s.enc, .ag c.enc] (bv (satB s c)) := by
  refine ok_of_vc (L := []) (ts := [4]) envOK mixed Try.func60 rfl (by kernel_rfl) rfl (by kernel_rfl) rfl fun hl => ?_
  simp only [Try.f60, snd_def, word, nums, nats, zv, nv, bv, sv, VL, VB, BEq.rfl, V1, V2, V3, V4, V5, V6, V7, V8, V9, V10, V11, V12, V13, VE, Nat.reduceBEq, Nat.reduceAdd, Nat.reduceSub, Nat.reduceMul, Nat.reduceLeDiff, Nat.reduceLT, Nat.reduceEqDiff, Int.reduceBEq, Int.reduceBNe, Int.reduceLT, Int.reduceLE, Int.reduceAdd, Int.reduceSub, Int.reduceMul, kAgg, scD, List.all_cons, List.all_nil]
  refine CallX.mk (valid_ok s hs) rfl ?_
  simp only [satB, satM, word, nums, nats, zv, nv, bv, sv, VL, VB, BEq.rfl, V1, V2, V3, V4, V5, V6, V7, V8, V9, V10, V11, V12, V13, VE, Nat.reduceBEq, Nat.reduceAdd, Nat.reduceSub, Nat.reduceMul, Nat.reduceLeDiff, Nat.reduceLT, Nat.reduceEqDiff, Int.reduceBEq, Int.reduceBNe, Int.reduceLT, Int.reduceLE, Int.reduceAdd, Int.reduceSub, Int.reduceMul, kAgg, scD, List.all_cons, List.all_nil]
  cases h1 : okS s with
  | false => simp only [word, nums, nats, zv, nv, bv, sv, VL, VB, BEq.rfl, V1, V2, V3, V4, V5, V6, V7, V8, V9, V10, V11, V12, V13, VE, Nat.reduceBEq, Nat.reduceAdd, Nat.reduceSub, Nat.reduceMul, Nat.reduceLeDiff, Nat.reduceLT, Nat.reduceEqDiff, Int.reduceBEq, Int.reduceBNe, Int.reduceLT, Int.reduceLE, Int.reduceAdd, Int.reduceSub, Int.reduceMul, kAgg, scD, List.all_cons, List.all_nil]
  | true =>
    simp only [snd_def, word, nums, nats, zv, nv, bv, sv, VL, VB, BEq.rfl, V1, V2, V3, V4, V5, V6, V7, V8, V9, V10, V11, V12, V13, VE, Nat.reduceBEq, Nat.reduceAdd, Nat.reduceSub, Nat.reduceMul, Nat.reduceLeDiff, Nat.reduceLT, Nat.reduceEqDiff, Int.reduceBEq, Int.reduceBNe, Int.reduceLT, Int.reduceLE, Int.reduceAdd, Int.reduceSub, Int.reduceMul, kAgg, scD, List.all_cons, List.all_nil]
    refine CallX.mk (valid_ok c hc) rfl ?_
    cases h2 : okS c with
    | false => simp only [word, nums, nats, zv, nv, bv, sv, VL, VB, BEq.rfl, V1, V2, V3, V4, V5, V6, V7, V8, V9, V10, V11, V12, V13, VE, Nat.reduceBEq, Nat.reduceAdd, Nat.reduceSub, Nat.reduceMul, Nat.reduceLeDiff, Nat.reduceLT, Nat.reduceEqDiff, Int.reduceBEq, Int.reduceBNe, Int.reduceLT, Int.reduceLE, Int.reduceAdd, Int.reduceSub, Int.reduceMul, kAgg, scD, List.all_cons, List.all_nil]
    | true =>
      simp only [andN _ _ hc.1 hs.1, andN _ _ hc.2 hs.2, word, nums, nats, zv, nv, bv, sv, VL, VB, BEq.rfl, V1, V2, V3, V4, V5, V6, V7, V8, V9, V10, V11, V12, V13, VE, Nat.reduceBEq, Nat.reduceAdd, Nat.reduceSub, Nat.reduceMul, Nat.reduceLeDiff, Nat.reduceLT, Nat.reduceEqDiff, Int.reduceBEq, Int.reduceBNe, Int.reduceLT, Int.reduceLE, Int.reduceAdd, Int.reduceSub, Int.reduceMul, kAgg, scD, List.all_cons, List.all_nil]
      refine guardB.mk (fun h => ?_) (fun h => ?_) <;> simp only [h, andN _ _ hc.2 hs.2, word, nums, nats, zv, nv, bv, sv, VL, VB, BEq.rfl, V1, V2, V3, V4, V5, V6, V7, V8, V9, V10, V11, V12, V13, VE, Nat.reduceBEq, Nat.reduceAdd, Nat.reduceSub, Nat.reduceMul, Nat.reduceLeDiff, Nat.reduceLT, Nat.reduceEqDiff, Int.reduceBEq, Int.reduceBNe, Int.reduceLT, Int.reduceLE, Int.reduceAdd, Int.reduceSub, Int.reduceMul, kAgg, scD, List.all_cons, List.all_nil]

/-! the reference -/
def getR (c : Snd) (f : Nat) : Int := if okS c = true then (if c.plus.testBit f = true then 1 else if c.minus.testBit f = true then -1 else 0) else 0
theorem feature_ok (f : Nat) (h : f < 24) : Ok Try.prog E 70 [nv f] (bv true) := by
  refine ok_of_vc (L := []) (ts := [2]) envOK mixed Try.func70 rfl (by kernel_rfl) rfl (by kernel_rfl) rfl fun hl => ?_
  simp only [Try.f70, decide_eq_true (Int.natCast_nonneg f), decide_eq_true (show (f : Int) < 24 by omega), word, nums, nats, zv, nv, bv, sv, VL, VB, BEq.rfl, V1, V2, V3, V4, V5, V6, V7, V8, V9, V10, V11, V12, V13, VE, Nat.reduceBEq, Nat.reduceAdd, Nat.reduceSub, Nat.reduceMul, Nat.reduceLeDiff, Nat.reduceLT, Nat.reduceEqDiff, Int.reduceBEq, Int.reduceBNe, Int.reduceLT, Int.reduceLE, Int.reduceAdd, Int.reduceSub, Int.reduceMul, kAgg, scD, List.all_cons, List.all_nil]
theorem Get_ok (c : Snd) (hc : c.In) (f : Nat) (hf : f < 24) : Ok Try.prog E 61 [.ag c.enc, nv f] (zv (getR c f)) := by
  refine ok_of_vc (L := []) (ts := [4]) envOK mixed Try.func61 rfl (by kernel_rfl) rfl (by kernel_rfl) rfl fun hl => ?_
  have hb : ∀ q : Int, (bits .and .u32 (q.fdiv (2 ^ (min f IntKind.u32.bits))) 1 == 1) = bitZ q f := fun q => rfl
  have hp := bitZ_nat c.plus f (by have := hc.1; omega) (by omega)
  have hm := bitZ_nat c.minus f (by have := hc.2; omega) (by omega)
  simp only [Try.f61, snd_def, getR, word, nums, nats, zv, nv, bv, sv, VL, VB, BEq.rfl, V1, V2, V3, V4, V5, V6, V7, V8, V9, V10, V11, V12, V13, VE, Nat.reduceBEq, Nat.reduceAdd, Nat.reduceSub, Nat.reduceMul, Nat.reduceLeDiff, Nat.reduceLT, Nat.reduceEqDiff, Int.reduceBEq, Int.reduceBNe, Int.reduceLT, Int.reduceLE, Int.reduceAdd, Int.reduceSub, Int.reduceMul, kAgg, scD, List.all_cons, List.all_nil]
  refine CallX.mk (rvalid_ok c hc) rfl ?_
  cases h1 : okS c with
  | false => 
    simp only [word, nums, nats, zv, nv, bv, sv, VL, VB, BEq.rfl, V1, V2, V3, V4, V5, V6, V7, V8, V9, V10, V11, V12, V13, VE, Nat.reduceBEq, Nat.reduceAdd, Nat.reduceSub, Nat.reduceMul, Nat.reduceLeDiff, Nat.reduceLT, Nat.reduceEqDiff, Int.reduceBEq, Int.reduceBNe, Int.reduceLT, Int.reduceLE, Int.reduceAdd, Int.reduceSub, Int.reduceMul, kAgg, scD, List.all_cons, List.all_nil]
    rfl
  | true =>
    simp only [word, nums, nats, zv, nv, bv, sv, VL, VB, BEq.rfl, V1, V2, V3, V4, V5, V6, V7, V8, V9, V10, V11, V12, V13, VE, Nat.reduceBEq, Nat.reduceAdd, Nat.reduceSub, Nat.reduceMul, Nat.reduceLeDiff, Nat.reduceLT, Nat.reduceEqDiff, Int.reduceBEq, Int.reduceBNe, Int.reduceLT, Int.reduceLE, Int.reduceAdd, Int.reduceSub, Int.reduceMul, kAgg, scD, List.all_cons, List.all_nil]
    refine CallX.mk (feature_ok f hf) rfl ?_
    simp only [hb, hp, word, nums, nats, zv, nv, bv, sv, VL, VB, BEq.rfl, V1, V2, V3, V4, V5, V6, V7, V8, V9, V10, V11, V12, V13, VE, Nat.reduceBEq, Nat.reduceAdd, Nat.reduceSub, Nat.reduceMul, Nat.reduceLeDiff, Nat.reduceLT, Nat.reduceEqDiff, Int.reduceBEq, Int.reduceBNe, Int.reduceLT, Int.reduceLE, Int.reduceAdd, Int.reduceSub, Int.reduceMul, kAgg, scD, List.all_cons, List.all_nil]
    refine ⟨Int.natCast_nonneg f, ?_⟩
    refine guardB.mk (fun h => ?_) (fun h => ?_) <;> simp only [h, word, nums, nats, zv, nv, bv, sv, VL, VB, BEq.rfl, V1, V2, V3, V4, V5, V6, V7, V8, V9, V10, V11, V12, V13, VE, Nat.reduceBEq, Nat.reduceAdd, Nat.reduceSub, Nat.reduceMul, Nat.reduceLeDiff, Nat.reduceLT, Nat.reduceEqDiff, Int.reduceBEq, Int.reduceBNe, Int.reduceLT, Int.reduceLE, Int.reduceAdd, Int.reduceSub, Int.reduceMul, kAgg, scD, List.all_cons, List.all_nil]
    · rfl
    · simp only [hb, hm, word, nums, nats, zv, nv, bv, sv, VL, VB, BEq.rfl, V1, V2, V3, V4, V5, V6, V7, V8, V9, V10, V11, V12, V13, VE, Nat.reduceBEq, Nat.reduceAdd, Nat.reduceSub, Nat.reduceMul, Nat.reduceLeDiff, Nat.reduceLT, Nat.reduceEqDiff, Int.reduceBEq, Int.reduceBNe, Int.reduceLT, Int.reduceLE, Int.reduceAdd, Int.reduceSub, Int.reduceMul, kAgg, scD, List.all_cons, List.all_nil]
      refine ⟨Int.natCast_nonneg f, ?_⟩
      refine guardB.mk (fun h2 => ?_) (fun h2 => ?_) <;> simp only [h2, word, nums, nats, zv, nv, bv, sv, VL, VB, BEq.rfl, V1, V2, V3, V4, V5, V6, V7, V8, V9, V10, V11, V12, V13, VE, Nat.reduceBEq, Nat.reduceAdd, Nat.reduceSub, Nat.reduceMul, Nat.reduceLeDiff, Nat.reduceLT, Nat.reduceEqDiff, Int.reduceBEq, Int.reduceBNe, Int.reduceLT, Int.reduceLE, Int.reduceAdd, Int.reduceSub, Int.reduceMul, kAgg, scD, List.all_cons, List.all_nil]
      · rfl
      · rfl
def satF (s c : Snd) (f : Nat) : Bool := decide (getR c f = 0) || decide (getR s f = getR c f)
def satR (s c : Snd) : Bool := okS s && (okS c && (List.range 24).all (satF s c))

theorem flip_bit (x f : Nat) (h : x < 4294967296) : (4294967295 - x).testBit f = (decide (f < 32) && !x.testBit f) := by
  have := Nat.testBit_two_pow_sub_succ (x := x) (n := 32) h f
  rw [← this]
  congr 1
  omega
theorem high_bit {c : Snd} (hc : okS c = true) {f : Nat} (hf : 24 ≤ f) : c.plus.testBit f = false ∧ c.minus.testBit f = false := by
  simp only [okS, Bool.and_eq_true, decide_eq_true_eq] at hc
  have h2 : (2 : Nat) ^ 24 ≤ 2 ^ f := Nat.pow_le_pow_right (by decide) hf
  have h3 : (2 : Nat) ^ 24 = 16777216 := by decide
  have h4 : c.plus ≤ c.plus ||| c.minus := Nat.left_le_or
  have h5 : c.minus ≤ c.plus ||| c.minus := Nat.right_le_or
  exact ⟨Nat.testBit_lt_two_pow (by omega), Nat.testBit_lt_two_pow (by omega)⟩
theorem both_bit {c : Snd} (hc : okS c = true) {f : Nat} (h : c.plus.testBit f = true) : c.minus.testBit f = false := by
  simp only [okS, Bool.and_eq_true, decide_eq_true_eq] at hc
  have := congrArg (Nat.testBit · f) hc.1
  simp only [Nat.testBit_and, Nat.zero_testBit, h, Bool.true_and] at this
  exact this
theorem sat_same (s c : Snd) (hs : s.In) (hc : c.In) : satR s c = satB s c := by
  rw [satR, satB]
  cases h1 : okS s with
  | false => rfl
  | true =>
    cases h2 : okS c with
    | false => rfl
    | true =>
      rw [Bool.true_and, Bool.true_and, Bool.true_and, Bool.true_and, Bool.eq_iff_iff, satM, List.all_eq_true]
      simp only [List.mem_range, satF, getR, h1, h2, if_true, Bool.or_eq_true, Bool.and_eq_true, decide_eq_true_eq]
      constructor
      · intro h
        constructor
        · apply Nat.eq_of_testBit_eq
          intro f
          rw [Nat.testBit_and, flip_bit _ _ hs.1, Nat.zero_testBit]
          by_cases hf : f < 24
          · have := h f hf
            cases hp : c.plus.testBit f with
            | false => rfl
            | true =>
              rw [hp] at this
              cases hq : s.plus.testBit f with
              | true => simp
              | false =>
                rw [hq] at this
                simp at this
                cases hm : s.minus.testBit f <;> rw [hm] at this <;> simp at this
          · rw [(high_bit h2 (by omega)).1]; rfl
        · apply Nat.eq_of_testBit_eq
          intro f
          rw [Nat.testBit_and, flip_bit _ _ hs.2, Nat.zero_testBit]
          by_cases hf : f < 24
          · have := h f hf
            cases hp : c.minus.testBit f with
            | false => rfl
            | true =>
              have hcp : c.plus.testBit f = false := by
                cases hcp : c.plus.testBit f with
                | false => rfl
                | true => rw [both_bit h2 hcp] at hp; cases hp
              rw [hp, hcp] at this
              cases hq : s.minus.testBit f with
              | true => simp
              | false =>
                rw [hq] at this
                simp at this
                cases hm : s.plus.testBit f <;> rw [hm] at this <;> simp at this
          · rw [(high_bit h2 (by omega)).2]; rfl
      · rintro ⟨h3, h4⟩ f hf
        have e1 := congrArg (Nat.testBit · f) h3
        have e2 := congrArg (Nat.testBit · f) h4
        simp only [Nat.testBit_and, flip_bit _ _ hs.1, flip_bit _ _ hs.2, Nat.zero_testBit, decide_eq_true (show f < 32 by omega), Bool.true_and] at e1 e2
        cases hp : c.plus.testBit f with
        | true =>
          rw [hp] at e1
          simp at e1
          simp [e1]
        | false =>
          cases hm : c.minus.testBit f with
          | true =>
            rw [hm] at e2
            simp at e2
            have : s.plus.testBit f = false := by
              cases hq : s.plus.testBit f with
              | false => rfl
              | true => rw [both_bit h1 hq] at e2; cases e2
            simp [e2, this]
          | false => simp

theorem rsat_ok (s c : Snd) (hs : s.In) (hc : c.In) : Ok Try.prog E 48 [.ag s.enc, .ag c.enc] (bv (satB s c)) := by
  rw [← sat_same s c hs hc]
  refine ok_of_vc (L := []) (ts := [4]) envOK mixed Try.func48 rfl (by kernel_rfl) rfl (by kernel_rfl) rfl fun hl => ?_
  simp only [Try.f48, snd_def, word, nums, nats, zv, nv, bv, sv, VL, VB, BEq.rfl, V1, V2, V3, V4, V5, V6, V7, V8, V9, V10, V11, V12, V13, VE, Nat.reduceBEq, Nat.reduceAdd, Nat.reduceSub, Nat.reduceMul, Nat.reduceLeDiff, Nat.reduceLT, Nat.reduceEqDiff, Int.reduceBEq, Int.reduceBNe, Int.reduceLT, Int.reduceLE, Int.reduceAdd, Int.reduceSub, Int.reduceMul, kAgg, scD, List.all_cons, List.all_nil]
  refine CallX.mk (rvalid_ok s hs) rfl ?_
  simp only [satR, word, nums, nats, zv, nv, bv, sv, VL, VB, BEq.rfl, V1, V2, V3, V4, V5, V6, V7, V8, V9, V10, V11, V12, V13, VE, Nat.reduceBEq, Nat.reduceAdd, Nat.reduceSub, Nat.reduceMul, Nat.reduceLeDiff, Nat.reduceLT, Nat.reduceEqDiff, Int.reduceBEq, Int.reduceBNe, Int.reduceLT, Int.reduceLE, Int.reduceAdd, Int.reduceSub, Int.reduceMul, kAgg, scD, List.all_cons, List.all_nil]
  cases h1 : okS s with
  | false => simp only [word, nums, nats, zv, nv, bv, sv, VL, VB, BEq.rfl, V1, V2, V3, V4, V5, V6, V7, V8, V9, V10, V11, V12, V13, VE, Nat.reduceBEq, Nat.reduceAdd, Nat.reduceSub, Nat.reduceMul, Nat.reduceLeDiff, Nat.reduceLT, Nat.reduceEqDiff, Int.reduceBEq, Int.reduceBNe, Int.reduceLT, Int.reduceLE, Int.reduceAdd, Int.reduceSub, Int.reduceMul, kAgg, scD, List.all_cons, List.all_nil]
  | true =>
    simp only [snd_def, word, nums, nats, zv, nv, bv, sv, VL, VB, BEq.rfl, V1, V2, V3, V4, V5, V6, V7, V8, V9, V10, V11, V12, V13, VE, Nat.reduceBEq, Nat.reduceAdd, Nat.reduceSub, Nat.reduceMul, Nat.reduceLeDiff, Nat.reduceLT, Nat.reduceEqDiff, Int.reduceBEq, Int.reduceBNe, Int.reduceLT, Int.reduceLE, Int.reduceAdd, Int.reduceSub, Int.reduceMul, kAgg, scD, List.all_cons, List.all_nil]
    refine CallX.mk (rvalid_ok c hc) rfl ?_
    cases h2 : okS c with
    | false => simp only [word, nums, nats, zv, nv, bv, sv, VL, VB, BEq.rfl, V1, V2, V3, V4, V5, V6, V7, V8, V9, V10, V11, V12, V13, VE, Nat.reduceBEq, Nat.reduceAdd, Nat.reduceSub, Nat.reduceMul, Nat.reduceLeDiff, Nat.reduceLT, Nat.reduceEqDiff, Int.reduceBEq, Int.reduceBNe, Int.reduceLT, Int.reduceLE, Int.reduceAdd, Int.reduceSub, Int.reduceMul, kAgg, scD, List.all_cons, List.all_nil]
    | true =>
      simp only [word, nums, nats, zv, nv, bv, sv, VL, VB, BEq.rfl, V1, V2, V3, V4, V5, V6, V7, V8, V9, V10, V11, V12, V13, VE, Nat.reduceBEq, Nat.reduceAdd, Nat.reduceSub, Nat.reduceMul, Nat.reduceLeDiff, Nat.reduceLT, Nat.reduceEqDiff, Int.reduceBEq, Int.reduceBNe, Int.reduceLT, Int.reduceLE, Int.reduceAdd, Int.reduceSub, Int.reduceMul, kAgg, scD, List.all_cons, List.all_nil]
      refine LoopVC.mk (Y := Nat) (fun k => k ≤ 24 ∧ (List.range k).all (satF s c) = true) (fun k => ⟨[(2, .bp 2 0), (3, .bp 3 0), (5, nv k)], [(2, .cells [.c (.sc (.int .u32 s.plus)), .c (.sc (.int .u32 s.minus))]), (3, .cells [.c (.sc (.int .u32 c.plus)), .c (.sc (.int .u32 c.minus))])]⟩) (fun k => 24 - k) ⟨0, Enter.id ?_, by omega, rfl⟩ ?_
      · simp only [word, nums, nats, zv, nv, bv, sv, VL, VB, BEq.rfl, V1, V2, V3, V4, V5, V6, V7, V8, V9, V10, V11, V12, V13, VE, Nat.reduceBEq, Nat.reduceAdd, Nat.reduceSub, Nat.reduceMul, Nat.reduceLeDiff, Nat.reduceLT, Nat.reduceEqDiff, Int.reduceBEq, Int.reduceBNe, Int.reduceLT, Int.reduceLE, Int.reduceAdd, Int.reduceSub, Int.reduceMul, kAgg, scD, List.all_cons, List.all_nil]
        rfl
      rintro k ⟨hk, hpre⟩
      have e24 : decide ((k : Int) < 24) = decide (k < 24) := by congr 1; exact propext ⟨fun h => by omega, fun h => by omega⟩
      simp only [e24, word, nums, nats, zv, nv, bv, sv, VL, VB, BEq.rfl, V1, V2, V3, V4, V5, V6, V7, V8, V9, V10, V11, V12, V13, VE, Nat.reduceBEq, Nat.reduceAdd, Nat.reduceSub, Nat.reduceMul, Nat.reduceLeDiff, Nat.reduceLT, Nat.reduceEqDiff, Int.reduceBEq, Int.reduceBNe, Int.reduceLT, Int.reduceLE, Int.reduceAdd, Int.reduceSub, Int.reduceMul, kAgg, scD, List.all_cons, List.all_nil]
      refine guardB.mk (fun h => ?_) (fun h => ?_)
      · have hk' : k < 24 := by simpa using h
        clear h
        have hg := Get_ok c hc k hk'
        have hg2 := Get_ok s hs k hk'
        rw [snd_def] at hg hg2
        simp only [word, nums, nats, zv, nv, bv, sv, VL, VB, BEq.rfl, V1, V2, V3, V4, V5, V6, V7, V8, V9, V10, V11, V12, V13, VE, Nat.reduceBEq, Nat.reduceAdd, Nat.reduceSub, Nat.reduceMul, Nat.reduceLeDiff, Nat.reduceLT, Nat.reduceEqDiff, Int.reduceBEq, Int.reduceBNe, Int.reduceLT, Int.reduceLE, Int.reduceAdd, Int.reduceSub, Int.reduceMul, kAgg, scD, List.all_cons, List.all_nil]
        refine CallX.mk hg rfl ?_
        have hfs := all_range_succ (p := satF s c) (k := k)
        have hff := fun h => all_range_false (p := satF s c) hk' h
        have hsf : satF s c k = (decide (getR c k = 0) || decide (getR s k = getR c k)) := rfl
        obtain ⟨u, hu⟩ : ∃ u, getR c k = u := ⟨_, rfl⟩
        obtain ⟨v, hv⟩ : ∃ v, getR s k = v := ⟨_, rfl⟩
        rw [hu, hv] at hsf
        rw [hpre, Bool.true_and] at hfs
        simp only [hu, bne, int_beq, word, nums, nats, zv, nv, bv, sv, VL, VB, BEq.rfl, V1, V2, V3, V4, V5, V6, V7, V8, V9, V10, V11, V12, V13, VE, Nat.reduceBEq, Nat.reduceAdd, Nat.reduceSub, Nat.reduceMul, Nat.reduceLeDiff, Nat.reduceLT, Nat.reduceEqDiff, Int.reduceBEq, Int.reduceBNe, Int.reduceLT, Int.reduceLE, Int.reduceAdd, Int.reduceSub, Int.reduceMul, kAgg, scD, List.all_cons, List.all_nil]
        refine guardB.mk (fun h => ?_) (fun h => ?_) <;> simp only [h, word, nums, nats, zv, nv, bv, sv, VL, VB, BEq.rfl, V1, V2, V3, V4, V5, V6, V7, V8, V9, V10, V11, V12, V13, VE, Nat.reduceBEq, Nat.reduceAdd, Nat.reduceSub, Nat.reduceMul, Nat.reduceLeDiff, Nat.reduceLT, Nat.reduceEqDiff, Int.reduceBEq, Int.reduceBNe, Int.reduceLT, Int.reduceLE, Int.reduceAdd, Int.reduceSub, Int.reduceMul, kAgg, scD, List.all_cons, List.all_nil]
        · have h : u ≠ 0 := by simpa using h
          refine CallX.mk hg2 rfl ?_
          simp only [hv, bne, int_beq, word, nums, nats, zv, nv, bv, sv, VL, VB, BEq.rfl, V1, V2, V3, V4, V5, V6, V7, V8, V9, V10, V11, V12, V13, VE, Nat.reduceBEq, Nat.reduceAdd, Nat.reduceSub, Nat.reduceMul, Nat.reduceLeDiff, Nat.reduceLT, Nat.reduceEqDiff, Int.reduceBEq, Int.reduceBNe, Int.reduceLT, Int.reduceLE, Int.reduceAdd, Int.reduceSub, Int.reduceMul, kAgg, scD, List.all_cons, List.all_nil]
          refine guardB.mk (fun h3 => ?_) (fun h3 => ?_) <;> simp only [h3, word, nums, nats, zv, nv, bv, sv, VL, VB, BEq.rfl, V1, V2, V3, V4, V5, V6, V7, V8, V9, V10, V11, V12, V13, VE, Nat.reduceBEq, Nat.reduceAdd, Nat.reduceSub, Nat.reduceMul, Nat.reduceLeDiff, Nat.reduceLT, Nat.reduceEqDiff, Int.reduceBEq, Int.reduceBNe, Int.reduceLT, Int.reduceLE, Int.reduceAdd, Int.reduceSub, Int.reduceMul, kAgg, scD, List.all_cons, List.all_nil]
          · have h3 : v ≠ u := by simpa using h3
            have := hff (by rw [hsf]; simp [h, h3])
            simp only [this, word, nums, nats, zv, nv, bv, sv, VL, VB, BEq.rfl, V1, V2, V3, V4, V5, V6, V7, V8, V9, V10, V11, V12, V13, VE, Nat.reduceBEq, Nat.reduceAdd, Nat.reduceSub, Nat.reduceMul, Nat.reduceLeDiff, Nat.reduceLT, Nat.reduceEqDiff, Int.reduceBEq, Int.reduceBNe, Int.reduceLT, Int.reduceLE, Int.reduceAdd, Int.reduceSub, Int.reduceMul, kAgg, scD, List.all_cons, List.all_nil]
          · have h3 : v = u := by simpa using h3
            rw [hsf] at hfs
            simp only [wrap_nat (k := k) (by omega), word, nums, nats, zv, nv, bv, sv, VL, VB, BEq.rfl, V1, V2, V3, V4, V5, V6, V7, V8, V9, V10, V11, V12, V13, VE, Nat.reduceBEq, Nat.reduceAdd, Nat.reduceSub, Nat.reduceMul, Nat.reduceLeDiff, Nat.reduceLT, Nat.reduceEqDiff, Int.reduceBEq, Int.reduceBNe, Int.reduceLT, Int.reduceLE, Int.reduceAdd, Int.reduceSub, Int.reduceMul, kAgg, scD, List.all_cons, List.all_nil]
            refine ⟨k + 1, Enter.id ?_, ⟨by omega, by rw [hfs]; simp [h3]⟩, by show 24 - (k + 1) < 24 - k; omega⟩
            simp only [word, nums, nats, zv, nv, bv, sv, VL, VB, BEq.rfl, V1, V2, V3, V4, V5, V6, V7, V8, V9, V10, V11, V12, V13, VE, Nat.reduceBEq, Nat.reduceAdd, Nat.reduceSub, Nat.reduceMul, Nat.reduceLeDiff, Nat.reduceLT, Nat.reduceEqDiff, Int.reduceBEq, Int.reduceBNe, Int.reduceLT, Int.reduceLE, Int.reduceAdd, Int.reduceSub, Int.reduceMul, kAgg, scD, List.all_cons, List.all_nil]
        · have h : u = 0 := by simpa using h
          rw [hsf] at hfs
          simp only [wrap_nat (k := k) (by omega), word, nums, nats, zv, nv, bv, sv, VL, VB, BEq.rfl, V1, V2, V3, V4, V5, V6, V7, V8, V9, V10, V11, V12, V13, VE, Nat.reduceBEq, Nat.reduceAdd, Nat.reduceSub, Nat.reduceMul, Nat.reduceLeDiff, Nat.reduceLT, Nat.reduceEqDiff, Int.reduceBEq, Int.reduceBNe, Int.reduceLT, Int.reduceLE, Int.reduceAdd, Int.reduceSub, Int.reduceMul, kAgg, scD, List.all_cons, List.all_nil]
          refine ⟨k + 1, Enter.id ?_, ⟨by omega, by rw [hfs]; simp [h]⟩, by show 24 - (k + 1) < 24 - k; omega⟩
          simp only [word, nums, nats, zv, nv, bv, sv, VL, VB, BEq.rfl, V1, V2, V3, V4, V5, V6, V7, V8, V9, V10, V11, V12, V13, VE, Nat.reduceBEq, Nat.reduceAdd, Nat.reduceSub, Nat.reduceMul, Nat.reduceLeDiff, Nat.reduceLT, Nat.reduceEqDiff, Int.reduceBEq, Int.reduceBNe, Int.reduceLT, Int.reduceLE, Int.reduceAdd, Int.reduceSub, Int.reduceMul, kAgg, scD, List.all_cons, List.all_nil]
      · have hk' : k = 24 := by
          have : ¬ k < 24 := by simpa using h
          omega
        rw [hk'] at hpre
        simp only [hpre, word, nums, nats, zv, nv, bv, sv, VL, VB, BEq.rfl, V1, V2, V3, V4, V5, V6, V7, V8, V9, V10, V11, V12, V13, VE, Nat.reduceBEq, Nat.reduceAdd, Nat.reduceSub, Nat.reduceMul, Nat.reduceLeDiff, Nat.reduceLT, Nat.reduceEqDiff, Int.reduceBEq, Int.reduceBNe, Int.reduceLT, Int.reduceLE, Int.reduceAdd, Int.reduceSub, Int.reduceMul, kAgg, scD, List.all_cons, List.all_nil]

end Go.Cp
end

section
set_option linter.unusedVariables false
set_option linter.unusedSimpArgs false
set_option maxHeartbeats 4000000
set_option maxRecDepth 10000
namespace Go.Cp
open Go Go.Proofs Go.Vx

def AllIn (w : List Snd) : Prop := ∀ k, (w.getD k Snd.zero).In
def wordE (w : List Snd) : Int := if 32 < w.length then 11 else if w.all okS then 0 else 14
def okR (sc : List Snd) (p : Int) : Bool := decide (sc.length ≤ 12) && (decide (1 ≤ p) && (decide (p ≤ sc.length) && sc.all okS))
def ruleE (sc : List Snd) (p : Int) : Int := if okR sc p then 0 else 2

theorem bad_ok (c : Snd) (h : c.In) : Ok Try.prog E 44 [.ag c.enc] (bv (!okS c)) := by
  refine ok_of_vc (L := []) (ts := [2]) envOK mixed Try.func44 rfl (by kernel_rfl) rfl (by kernel_rfl) rfl fun hl => ?_
  simp only [Try.f44, snd_def, word, nums, nats, zv, nv, bv, sv, VL, VB, BEq.rfl, V1, V2, V3, V4, V5, V6, V7, V8, V9, V10, V11, V12, V13, VE, Nat.reduceBEq, Nat.reduceAdd, Nat.reduceSub, Nat.reduceMul, Nat.reduceLeDiff, Nat.reduceLT, Nat.reduceEqDiff, Int.reduceBEq, Int.reduceBNe, Int.reduceLT, Int.reduceLE, Int.reduceAdd, Int.reduceSub, Int.reduceMul, kAgg, scD, List.all_cons, List.all_nil]
  refine CallX.mk (valid_ok c h) rfl ?_
  simp only [word, nums, nats, zv, nv, bv, sv, VL, VB, BEq.rfl, V1, V2, V3, V4, V5, V6, V7, V8, V9, V10, V11, V12, V13, VE, Nat.reduceBEq, Nat.reduceAdd, Nat.reduceSub, Nat.reduceMul, Nat.reduceLeDiff, Nat.reduceLT, Nat.reduceEqDiff, Int.reduceBEq, Int.reduceBNe, Int.reduceLT, Int.reduceLE, Int.reduceAdd, Int.reduceSub, Int.reduceMul, kAgg, scD, List.all_cons, List.all_nil]
def idxV (w : List Snd) : Int := if w.all okS then -1 else (w.findIdx fun c => !okS c : Nat)
theorem index_ok (w : List Snd) (h : AllIn w) : OkM Try.prog E 58 [.c (word w), .fn 44 []] [] (zv (idxV w)) [] := by
  refine okM_of_vc (L := []) (ts := [4]) envOK mixed Try.func58 rfl (by kernel_rfl) rfl (by decide) (by kernel_rfl) rfl fun hl hlb => ?_
  have hlen := len_of (hl _ (List.mem_cons_self ..))
  rw [List.length_map] at hlen
  simp only [Try.f58, word, nums, nats, zv, nv, bv, sv, VL, VB, BEq.rfl, V1, V2, V3, V4, V5, V6, V7, V8, V9, V10, V11, V12, V13, VE, Nat.reduceBEq, Nat.reduceAdd, Nat.reduceSub, Nat.reduceMul, Nat.reduceLeDiff, Nat.reduceLT, Nat.reduceEqDiff, Int.reduceBEq, Int.reduceBNe, Int.reduceLT, Int.reduceLE, Int.reduceAdd, Int.reduceSub, Int.reduceMul, kAgg, scD, List.all_cons, List.all_nil]
  refine LoopVC.mk (Y := Nat) (fun k => k ≤ w.length ∧ (w.take k).all okS = true) (fun k => ⟨[(0, .c (word w)), (1, .fn 44 []), (7, nv w.length), (8, nv k)], []⟩) (fun k => w.length - k) ⟨0, Enter.id ?_, by omega, rfl⟩ ?_
  · simp only [word, nums, nats, zv, nv, bv, sv, VL, VB, BEq.rfl, V1, V2, V3, V4, V5, V6, V7, V8, V9, V10, V11, V12, V13, VE, Nat.reduceBEq, Nat.reduceAdd, Nat.reduceSub, Nat.reduceMul, Nat.reduceLeDiff, Nat.reduceLT, Nat.reduceEqDiff, Int.reduceBEq, Int.reduceBNe, Int.reduceLT, Int.reduceLE, Int.reduceAdd, Int.reduceSub, Int.reduceMul, kAgg, scD, List.all_cons, List.all_nil]
    rfl
  rintro k ⟨hk, hpre⟩
  simp only [lt_nat, word, nums, nats, zv, nv, bv, sv, VL, VB, BEq.rfl, V1, V2, V3, V4, V5, V6, V7, V8, V9, V10, V11, V12, V13, VE, Nat.reduceBEq, Nat.reduceAdd, Nat.reduceSub, Nat.reduceMul, Nat.reduceLeDiff, Nat.reduceLT, Nat.reduceEqDiff, Int.reduceBEq, Int.reduceBNe, Int.reduceLT, Int.reduceLE, Int.reduceAdd, Int.reduceSub, Int.reduceMul, kAgg, scD, List.all_cons, List.all_nil]
  refine guardB.mk (fun h => ?_) (fun h => ?_)
  · have hk' : k < w.length := by simpa using h
    have hin : ∀ k, (w.getD k Snd.zero).In := by assumption
    have hin := hin k
    have hts := all_take_succ Snd.zero hk' okS
    have hf := fun h => all_false_at (l := w) Snd.zero hk' (p := okS) h
    rw [hpre, Bool.true_and] at hts
    have hget := getD_of Snd.zero w k hk'
    obtain ⟨c, hc⟩ : ∃ c, w.getD k Snd.zero = c := ⟨_, rfl⟩
    rw [hc] at hin hts hf hget
    simp only [getD_snd w k hk', hc, snd_def, word, nums, nats, zv, nv, bv, sv, VL, VB, BEq.rfl, V1, V2, V3, V4, V5, V6, V7, V8, V9, V10, V11, V12, V13, VE, Nat.reduceBEq, Nat.reduceAdd, Nat.reduceSub, Nat.reduceMul, Nat.reduceLeDiff, Nat.reduceLT, Nat.reduceEqDiff, Int.reduceBEq, Int.reduceBNe, Int.reduceLT, Int.reduceLE, Int.reduceAdd, Int.reduceSub, Int.reduceMul, kAgg, scD, List.all_cons, List.all_nil]
    refine ⟨⟨Int.natCast_nonneg k, hk'⟩, ?_⟩
    have hbad := bad_ok c hin
    rw [snd_def] at hbad
    refine CallX.mk hbad rfl ?_
    cases ho : okS c with
    | false =>
      have hx : idxV w = (k : Int) := by
        rw [idxV, hf ho, if_neg (by simp)]
        congr 1
        rw [List.findIdx_eq hk', ← hget, ho]
        refine ⟨rfl, fun j hj => ?_⟩
        have := List.all_eq_true.1 hpre w[j] (by rw [List.mem_take_iff_getElem]; exact ⟨j, by omega, rfl⟩)
        rw [this]; rfl
      simp only [hx, word, nums, nats, zv, nv, bv, sv, VL, VB, BEq.rfl, V1, V2, V3, V4, V5, V6, V7, V8, V9, V10, V11, V12, V13, VE, Nat.reduceBEq, Nat.reduceAdd, Nat.reduceSub, Nat.reduceMul, Nat.reduceLeDiff, Nat.reduceLT, Nat.reduceEqDiff, Int.reduceBEq, Int.reduceBNe, Int.reduceLT, Int.reduceLE, Int.reduceAdd, Int.reduceSub, Int.reduceMul, kAgg, scD, List.all_cons, List.all_nil]
      refine Enter.mk [] [] [] ?_
      simp only [word, nums, nats, zv, nv, bv, sv, VL, VB, BEq.rfl, V1, V2, V3, V4, V5, V6, V7, V8, V9, V10, V11, V12, V13, VE, Nat.reduceBEq, Nat.reduceAdd, Nat.reduceSub, Nat.reduceMul, Nat.reduceLeDiff, Nat.reduceLT, Nat.reduceEqDiff, Int.reduceBEq, Int.reduceBNe, Int.reduceLT, Int.reduceLE, Int.reduceAdd, Int.reduceSub, Int.reduceMul, kAgg, scD, List.all_cons, List.all_nil]
    | true =>
      rw [ho] at hts
      simp only [wrap_nat (k := k) (by omega), word, nums, nats, zv, nv, bv, sv, VL, VB, BEq.rfl, V1, V2, V3, V4, V5, V6, V7, V8, V9, V10, V11, V12, V13, VE, Nat.reduceBEq, Nat.reduceAdd, Nat.reduceSub, Nat.reduceMul, Nat.reduceLeDiff, Nat.reduceLT, Nat.reduceEqDiff, Int.reduceBEq, Int.reduceBNe, Int.reduceLT, Int.reduceLE, Int.reduceAdd, Int.reduceSub, Int.reduceMul, kAgg, scD, List.all_cons, List.all_nil]
      refine ⟨k + 1, Enter.id ?_, ⟨by omega, hts⟩, by show w.length - (k + 1) < w.length - k; omega⟩
      simp only [word, nums, nats, zv, nv, bv, sv, VL, VB, BEq.rfl, V1, V2, V3, V4, V5, V6, V7, V8, V9, V10, V11, V12, V13, VE, Nat.reduceBEq, Nat.reduceAdd, Nat.reduceSub, Nat.reduceMul, Nat.reduceLeDiff, Nat.reduceLT, Nat.reduceEqDiff, Int.reduceBEq, Int.reduceBNe, Int.reduceLT, Int.reduceLE, Int.reduceAdd, Int.reduceSub, Int.reduceMul, kAgg, scD, List.all_cons, List.all_nil]
  · have hk' : k = w.length := by
      have : ¬ k < w.length := by simpa using h
      omega
    rw [hk', List.take_length] at hpre
    simp only [idxV, hpre, if_pos, word, nums, nats, zv, nv, bv, sv, VL, VB, BEq.rfl, V1, V2, V3, V4, V5, V6, V7, V8, V9, V10, V11, V12, V13, VE, Nat.reduceBEq, Nat.reduceAdd, Nat.reduceSub, Nat.reduceMul, Nat.reduceLeDiff, Nat.reduceLT, Nat.reduceEqDiff, Int.reduceBEq, Int.reduceBNe, Int.reduceLT, Int.reduceLE, Int.reduceAdd, Int.reduceSub, Int.reduceMul, kAgg, scD, List.all_cons, List.all_nil]
    refine Enter.mk [] [] [] ?_
    simp only [word, nums, nats, zv, nv, bv, sv, VL, VB, BEq.rfl, V1, V2, V3, V4, V5, V6, V7, V8, V9, V10, V11, V12, V13, VE, Nat.reduceBEq, Nat.reduceAdd, Nat.reduceSub, Nat.reduceMul, Nat.reduceLeDiff, Nat.reduceLT, Nat.reduceEqDiff, Int.reduceBEq, Int.reduceBNe, Int.reduceLT, Int.reduceLE, Int.reduceAdd, Int.reduceSub, Int.reduceMul, kAgg, scD, List.all_cons, List.all_nil]
theorem contains_ok (w : List Snd) (h : AllIn w) : OkM Try.prog E 43 [.c (word w), .fn 44 []] [] (bv (!w.all okS)) [] := by
  refine okM_of_vc (L := []) (ts := [4]) envOK mixed Try.func43 rfl (by kernel_rfl) rfl (by decide) (by kernel_rfl) rfl fun hl hlb => ?_
  simp only [Try.f43, word, nums, nats, zv, nv, bv, sv, VL, VB, BEq.rfl, V1, V2, V3, V4, V5, V6, V7, V8, V9, V10, V11, V12, V13, VE, Nat.reduceBEq, Nat.reduceAdd, Nat.reduceSub, Nat.reduceMul, Nat.reduceLeDiff, Nat.reduceLT, Nat.reduceEqDiff, Int.reduceBEq, Int.reduceBNe, Int.reduceLT, Int.reduceLE, Int.reduceAdd, Int.reduceSub, Int.reduceMul, kAgg, scD, List.all_cons, List.all_nil]
  refine CallMVC.mk [] [] (index_ok w h) ?_ ?_
  · simp only [word, nums, nats, zv, nv, bv, sv, VL, VB, BEq.rfl, V1, V2, V3, V4, V5, V6, V7, V8, V9, V10, V11, V12, V13, VE, Nat.reduceBEq, Nat.reduceAdd, Nat.reduceSub, Nat.reduceMul, Nat.reduceLeDiff, Nat.reduceLT, Nat.reduceEqDiff, Int.reduceBEq, Int.reduceBNe, Int.reduceLT, Int.reduceLE, Int.reduceAdd, Int.reduceSub, Int.reduceMul, kAgg, scD, List.all_cons, List.all_nil]
  have hx : decide (0 ≤ idxV w) = !w.all okS := by
    rw [idxV]
    cases w.all okS
    · simp
    · simp
  simp only [hx, word, nums, nats, zv, nv, bv, sv, VL, VB, BEq.rfl, V1, V2, V3, V4, V5, V6, V7, V8, V9, V10, V11, V12, V13, VE, Nat.reduceBEq, Nat.reduceAdd, Nat.reduceSub, Nat.reduceMul, Nat.reduceLeDiff, Nat.reduceLT, Nat.reduceEqDiff, Int.reduceBEq, Int.reduceBNe, Int.reduceLT, Int.reduceLE, Int.reduceAdd, Int.reduceSub, Int.reduceMul, kAgg, scD, List.all_cons, List.all_nil]
  refine Enter.mk [] [] [] ?_
  simp only [word, nums, nats, zv, nv, bv, sv, VL, VB, BEq.rfl, V1, V2, V3, V4, V5, V6, V7, V8, V9, V10, V11, V12, V13, VE, Nat.reduceBEq, Nat.reduceAdd, Nat.reduceSub, Nat.reduceMul, Nat.reduceLeDiff, Nat.reduceLT, Nat.reduceEqDiff, Int.reduceBEq, Int.reduceBNe, Int.reduceLT, Int.reduceLE, Int.reduceAdd, Int.reduceSub, Int.reduceMul, kAgg, scD, List.all_cons, List.all_nil]

theorem Check_ok (sc : List Snd) (p : Int) (h : AllIn sc) : Ok Try.prog E 21 [.ag (ruleD sc p)] (zv (ruleE sc p)) := by
  refine ok_of_vc (L := []) (ts := [2]) envOK mixed Try.func21 rfl (by kernel_rfl) rfl (by kernel_rfl) rfl fun hl => ?_
  have e12 : decide ((12 : Int) < (sc.length : Int)) = !decide (sc.length ≤ 12) := by
    rw [← decide_not]; congr 1; exact propext ⟨fun h => by omega, fun h => by omega⟩
  have e1 : decide (p < 1) = !decide (1 ≤ p) := by rw [← decide_not]; congr 1; exact propext ⟨fun h => by omega, fun h => by omega⟩
  have e2 : decide ((sc.length : Int) < p) = !decide (p ≤ sc.length) := by rw [← decide_not]; congr 1; exact propext ⟨fun h => by omega, fun h => by omega⟩
  obtain ⟨x, hx⟩ : ∃ x, decide (sc.length ≤ 12) = x := ⟨_, rfl⟩
  obtain ⟨y, hy⟩ : ∃ y, decide (1 ≤ p) = y := ⟨_, rfl⟩
  obtain ⟨z, hz⟩ : ∃ z, decide (p ≤ (sc.length : Int)) = z := ⟨_, rfl⟩
  simp only [Try.f21, e12, e1, e2, hx, hy, hz, ruleE, okR, if_pos, if_neg, Bool.false_eq_true, if_true, if_false, word, nums, nats, zv, nv, bv, sv, VL, VB, BEq.rfl, V1, V2, V3, V4, V5, V6, V7, V8, V9, V10, V11, V12, V13, VE, Nat.reduceBEq, Nat.reduceAdd, Nat.reduceSub, Nat.reduceMul, Nat.reduceLeDiff, Nat.reduceLT, Nat.reduceEqDiff, Int.reduceBEq, Int.reduceBNe, Int.reduceLT, Int.reduceLE, Int.reduceAdd, Int.reduceSub, Int.reduceMul, kAgg, scD, List.all_cons, List.all_nil]
  cases x
  · simp only [e12, e1, e2, hx, hy, hz, ruleE, okR, if_pos, if_neg, Bool.false_eq_true, if_true, if_false, word, nums, nats, zv, nv, bv, sv, VL, VB, BEq.rfl, V1, V2, V3, V4, V5, V6, V7, V8, V9, V10, V11, V12, V13, VE, Nat.reduceBEq, Nat.reduceAdd, Nat.reduceSub, Nat.reduceMul, Nat.reduceLeDiff, Nat.reduceLT, Nat.reduceEqDiff, Int.reduceBEq, Int.reduceBNe, Int.reduceLT, Int.reduceLE, Int.reduceAdd, Int.reduceSub, Int.reduceMul, kAgg, scD, List.all_cons, List.all_nil]
  cases y
  · simp only [e12, e1, e2, hx, hy, hz, ruleE, okR, if_pos, if_neg, Bool.false_eq_true, if_true, if_false, word, nums, nats, zv, nv, bv, sv, VL, VB, BEq.rfl, V1, V2, V3, V4, V5, V6, V7, V8, V9, V10, V11, V12, V13, VE, Nat.reduceBEq, Nat.reduceAdd, Nat.reduceSub, Nat.reduceMul, Nat.reduceLeDiff, Nat.reduceLT, Nat.reduceEqDiff, Int.reduceBEq, Int.reduceBNe, Int.reduceLT, Int.reduceLE, Int.reduceAdd, Int.reduceSub, Int.reduceMul, kAgg, scD, List.all_cons, List.all_nil]
  cases z
  · simp only [e12, e1, e2, hx, hy, hz, ruleE, okR, if_pos, if_neg, Bool.false_eq_true, if_true, if_false, word, nums, nats, zv, nv, bv, sv, VL, VB, BEq.rfl, V1, V2, V3, V4, V5, V6, V7, V8, V9, V10, V11, V12, V13, VE, Nat.reduceBEq, Nat.reduceAdd, Nat.reduceSub, Nat.reduceMul, Nat.reduceLeDiff, Nat.reduceLT, Nat.reduceEqDiff, Int.reduceBEq, Int.reduceBNe, Int.reduceLT, Int.reduceLE, Int.reduceAdd, Int.reduceSub, Int.reduceMul, kAgg, scD, List.all_cons, List.all_nil]
  simp only [e12, e1, e2, hx, hy, hz, ruleE, okR, if_pos, if_neg, Bool.false_eq_true, if_true, if_false, word, nums, nats, zv, nv, bv, sv, VL, VB, BEq.rfl, V1, V2, V3, V4, V5, V6, V7, V8, V9, V10, V11, V12, V13, VE, Nat.reduceBEq, Nat.reduceAdd, Nat.reduceSub, Nat.reduceMul, Nat.reduceLeDiff, Nat.reduceLT, Nat.reduceEqDiff, Int.reduceBEq, Int.reduceBNe, Int.reduceLT, Int.reduceLE, Int.reduceAdd, Int.reduceSub, Int.reduceMul, kAgg, scD, List.all_cons, List.all_nil]
  refine CallMVC.mk [] [] (contains_ok sc h) ?_ ?_
  · simp only [word, nums, nats, zv, nv, bv, sv, VL, VB, BEq.rfl, V1, V2, V3, V4, V5, V6, V7, V8, V9, V10, V11, V12, V13, VE, Nat.reduceBEq, Nat.reduceAdd, Nat.reduceSub, Nat.reduceMul, Nat.reduceLeDiff, Nat.reduceLT, Nat.reduceEqDiff, Int.reduceBEq, Int.reduceBNe, Int.reduceLT, Int.reduceLE, Int.reduceAdd, Int.reduceSub, Int.reduceMul, kAgg, scD, List.all_cons, List.all_nil]
  simp only [word, nums, nats, zv, nv, bv, sv, VL, VB, BEq.rfl, V1, V2, V3, V4, V5, V6, V7, V8, V9, V10, V11, V12, V13, VE, Nat.reduceBEq, Nat.reduceAdd, Nat.reduceSub, Nat.reduceMul, Nat.reduceLeDiff, Nat.reduceLT, Nat.reduceEqDiff, Int.reduceBEq, Int.reduceBNe, Int.reduceLT, Int.reduceLE, Int.reduceAdd, Int.reduceSub, Int.reduceMul, kAgg, scD, List.all_cons, List.all_nil]
  cases sc.all okS <;> simp only [e12, e1, e2, hx, hy, hz, ruleE, okR, if_pos, if_neg, Bool.false_eq_true, if_true, if_false, word, nums, nats, zv, nv, bv, sv, VL, VB, BEq.rfl, V1, V2, V3, V4, V5, V6, V7, V8, V9, V10, V11, V12, V13, VE, Nat.reduceBEq, Nat.reduceAdd, Nat.reduceSub, Nat.reduceMul, Nat.reduceLeDiff, Nat.reduceLT, Nat.reduceEqDiff, Int.reduceBEq, Int.reduceBNe, Int.reduceLT, Int.reduceLE, Int.reduceAdd, Int.reduceSub, Int.reduceMul, kAgg, scD, List.all_cons, List.all_nil]
theorem rCheck_ok (sc : List Snd) (p : Int) (h : AllIn sc) : Ok Try.prog E 22 [.ag (ruleD sc p)] (zv (ruleE sc p)) := by
  refine ok_of_vc (L := []) (ts := [2]) envOK mixed Try.func22 rfl (by kernel_rfl) rfl (by kernel_rfl) rfl fun hl => ?_
  have e0 : decide ((sc.length : Int) < 1) = decide (sc.length = 0) := by congr 1; exact propext ⟨fun h => by omega, fun h => by omega⟩
  have e12 : decide ((12 : Int) < (sc.length : Int)) = !decide (sc.length ≤ 12) := by
    rw [← decide_not]; congr 1; exact propext ⟨fun h => by omega, fun h => by omega⟩
  have e1 : decide (p < 1) = !decide (1 ≤ p) := by rw [← decide_not]; congr 1; exact propext ⟨fun h => by omega, fun h => by omega⟩
  have e2 : decide ((sc.length : Int) < p) = !decide (p ≤ sc.length) := by rw [← decide_not]; congr 1; exact propext ⟨fun h => by omega, fun h => by omega⟩
  by_cases h0 : sc.length = 0
  · have hr : okR sc p = false := by
      rw [okR]
      cases hy : decide (1 ≤ p) with
      | false => simp
      | true =>
        have hz : decide (p ≤ (sc.length : Int)) = false := decide_eq_false (by have := of_decide_eq_true hy; omega)
        rw [hz]; simp
    simp only [Try.f22, e0, decide_eq_true h0, ruleE, hr, Bool.false_eq_true, if_false, word, nums, nats, zv, nv, bv, sv, VL, VB, BEq.rfl, V1, V2, V3, V4, V5, V6, V7, V8, V9, V10, V11, V12, V13, VE, Nat.reduceBEq, Nat.reduceAdd, Nat.reduceSub, Nat.reduceMul, Nat.reduceLeDiff, Nat.reduceLT, Nat.reduceEqDiff, Int.reduceBEq, Int.reduceBNe, Int.reduceLT, Int.reduceLE, Int.reduceAdd, Int.reduceSub, Int.reduceMul, kAgg, scD, List.all_cons, List.all_nil]
  obtain ⟨x, hx⟩ : ∃ x, decide (sc.length ≤ 12) = x := ⟨_, rfl⟩
  obtain ⟨y, hy⟩ : ∃ y, decide (1 ≤ p) = y := ⟨_, rfl⟩
  obtain ⟨z, hz⟩ : ∃ z, decide (p ≤ (sc.length : Int)) = z := ⟨_, rfl⟩
  have hlen : x = true → sc.length ≤ 12 := fun e => by rw [e] at hx; exact of_decide_eq_true hx
  simp only [Try.f22, e0, decide_eq_false h0, e12, e1, e2, hx, hy, hz, ruleE, okR, Bool.false_eq_true, if_true, if_false, word, nums, nats, zv, nv, bv, sv, VL, VB, BEq.rfl, V1, V2, V3, V4, V5, V6, V7, V8, V9, V10, V11, V12, V13, VE, Nat.reduceBEq, Nat.reduceAdd, Nat.reduceSub, Nat.reduceMul, Nat.reduceLeDiff, Nat.reduceLT, Nat.reduceEqDiff, Int.reduceBEq, Int.reduceBNe, Int.reduceLT, Int.reduceLE, Int.reduceAdd, Int.reduceSub, Int.reduceMul, kAgg, scD, List.all_cons, List.all_nil]
  cases x
  · simp only [e0, decide_eq_false h0, e12, e1, e2, hx, hy, hz, ruleE, okR, Bool.false_eq_true, if_true, if_false, word, nums, nats, zv, nv, bv, sv, VL, VB, BEq.rfl, V1, V2, V3, V4, V5, V6, V7, V8, V9, V10, V11, V12, V13, VE, Nat.reduceBEq, Nat.reduceAdd, Nat.reduceSub, Nat.reduceMul, Nat.reduceLeDiff, Nat.reduceLT, Nat.reduceEqDiff, Int.reduceBEq, Int.reduceBNe, Int.reduceLT, Int.reduceLE, Int.reduceAdd, Int.reduceSub, Int.reduceMul, kAgg, scD, List.all_cons, List.all_nil]
  cases y
  · simp only [e0, decide_eq_false h0, e12, e1, e2, hx, hy, hz, ruleE, okR, Bool.false_eq_true, if_true, if_false, word, nums, nats, zv, nv, bv, sv, VL, VB, BEq.rfl, V1, V2, V3, V4, V5, V6, V7, V8, V9, V10, V11, V12, V13, VE, Nat.reduceBEq, Nat.reduceAdd, Nat.reduceSub, Nat.reduceMul, Nat.reduceLeDiff, Nat.reduceLT, Nat.reduceEqDiff, Int.reduceBEq, Int.reduceBNe, Int.reduceLT, Int.reduceLE, Int.reduceAdd, Int.reduceSub, Int.reduceMul, kAgg, scD, List.all_cons, List.all_nil]
  cases z
  · simp only [e0, decide_eq_false h0, e12, e1, e2, hx, hy, hz, ruleE, okR, Bool.false_eq_true, if_true, if_false, word, nums, nats, zv, nv, bv, sv, VL, VB, BEq.rfl, V1, V2, V3, V4, V5, V6, V7, V8, V9, V10, V11, V12, V13, VE, Nat.reduceBEq, Nat.reduceAdd, Nat.reduceSub, Nat.reduceMul, Nat.reduceLeDiff, Nat.reduceLT, Nat.reduceEqDiff, Int.reduceBEq, Int.reduceBNe, Int.reduceLT, Int.reduceLE, Int.reduceAdd, Int.reduceSub, Int.reduceMul, kAgg, scD, List.all_cons, List.all_nil]
  simp only [e0, decide_eq_false h0, e12, e1, e2, hx, hy, hz, ruleE, okR, Bool.false_eq_true, if_true, if_false, word, nums, nats, zv, nv, bv, sv, VL, VB, BEq.rfl, V1, V2, V3, V4, V5, V6, V7, V8, V9, V10, V11, V12, V13, VE, Nat.reduceBEq, Nat.reduceAdd, Nat.reduceSub, Nat.reduceMul, Nat.reduceLeDiff, Nat.reduceLT, Nat.reduceEqDiff, Int.reduceBEq, Int.reduceBNe, Int.reduceLT, Int.reduceLE, Int.reduceAdd, Int.reduceSub, Int.reduceMul, kAgg, scD, List.all_cons, List.all_nil]
  have hlen := hlen rfl
  refine LoopVC.mk (Y := Nat) (fun k => k ≤ sc.length ∧ (sc.take k).all okS = true) (fun k => ⟨[(1, .bp 1 0), (3, nv k)], [(1, .cells [.c (word sc), zv p])]⟩) (fun k => sc.length - k) ⟨0, Enter.id ?_, by omega, rfl⟩ ?_
  · simp only [word, nums, nats, zv, nv, bv, sv, VL, VB, BEq.rfl, V1, V2, V3, V4, V5, V6, V7, V8, V9, V10, V11, V12, V13, VE, Nat.reduceBEq, Nat.reduceAdd, Nat.reduceSub, Nat.reduceMul, Nat.reduceLeDiff, Nat.reduceLT, Nat.reduceEqDiff, Int.reduceBEq, Int.reduceBNe, Int.reduceLT, Int.reduceLE, Int.reduceAdd, Int.reduceSub, Int.reduceMul, kAgg, scD, List.all_cons, List.all_nil]
    rfl
  rintro k ⟨hk, hpre⟩
  simp only [lt_nat, word, nums, nats, zv, nv, bv, sv, VL, VB, BEq.rfl, V1, V2, V3, V4, V5, V6, V7, V8, V9, V10, V11, V12, V13, VE, Nat.reduceBEq, Nat.reduceAdd, Nat.reduceSub, Nat.reduceMul, Nat.reduceLeDiff, Nat.reduceLT, Nat.reduceEqDiff, Int.reduceBEq, Int.reduceBNe, Int.reduceLT, Int.reduceLE, Int.reduceAdd, Int.reduceSub, Int.reduceMul, kAgg, scD, List.all_cons, List.all_nil]
  refine guardB.mk (fun h => ?_) (fun h => ?_)
  · have hk' : k < sc.length := by simpa using h
    have hin : ∀ k, (sc.getD k Snd.zero).In := by assumption
    have hin := hin k
    have hts := all_take_succ Snd.zero hk' okS
    have hf := fun h => all_false_at (l := sc) Snd.zero hk' (p := okS) h
    rw [hpre, Bool.true_and] at hts
    obtain ⟨c, hc⟩ : ∃ c, sc.getD k Snd.zero = c := ⟨_, rfl⟩
    rw [hc] at hin hts hf
    simp only [getD_snd sc k hk', hc, snd_def, word, nums, nats, zv, nv, bv, sv, VL, VB, BEq.rfl, V1, V2, V3, V4, V5, V6, V7, V8, V9, V10, V11, V12, V13, VE, Nat.reduceBEq, Nat.reduceAdd, Nat.reduceSub, Nat.reduceMul, Nat.reduceLeDiff, Nat.reduceLT, Nat.reduceEqDiff, Int.reduceBEq, Int.reduceBNe, Int.reduceLT, Int.reduceLE, Int.reduceAdd, Int.reduceSub, Int.reduceMul, kAgg, scD, List.all_cons, List.all_nil]
    refine ⟨⟨Int.natCast_nonneg k, hk'⟩, ?_⟩
    have hbad := rvalid_ok c hin
    rw [snd_def] at hbad
    refine CallX.mk hbad rfl ?_
    cases ho : okS c with
    | false =>
      simp only [hf ho, Bool.false_eq_true, if_false, word, nums, nats, zv, nv, bv, sv, VL, VB, BEq.rfl, V1, V2, V3, V4, V5, V6, V7, V8, V9, V10, V11, V12, V13, VE, Nat.reduceBEq, Nat.reduceAdd, Nat.reduceSub, Nat.reduceMul, Nat.reduceLeDiff, Nat.reduceLT, Nat.reduceEqDiff, Int.reduceBEq, Int.reduceBNe, Int.reduceLT, Int.reduceLE, Int.reduceAdd, Int.reduceSub, Int.reduceMul, kAgg, scD, List.all_cons, List.all_nil]
    | true =>
      rw [ho] at hts
      simp only [wrap_nat (k := k) (by omega), word, nums, nats, zv, nv, bv, sv, VL, VB, BEq.rfl, V1, V2, V3, V4, V5, V6, V7, V8, V9, V10, V11, V12, V13, VE, Nat.reduceBEq, Nat.reduceAdd, Nat.reduceSub, Nat.reduceMul, Nat.reduceLeDiff, Nat.reduceLT, Nat.reduceEqDiff, Int.reduceBEq, Int.reduceBNe, Int.reduceLT, Int.reduceLE, Int.reduceAdd, Int.reduceSub, Int.reduceMul, kAgg, scD, List.all_cons, List.all_nil]
      refine ⟨k + 1, Enter.id ?_, ⟨by omega, hts⟩, by show sc.length - (k + 1) < sc.length - k; omega⟩
      simp only [word, nums, nats, zv, nv, bv, sv, VL, VB, BEq.rfl, V1, V2, V3, V4, V5, V6, V7, V8, V9, V10, V11, V12, V13, VE, Nat.reduceBEq, Nat.reduceAdd, Nat.reduceSub, Nat.reduceMul, Nat.reduceLeDiff, Nat.reduceLT, Nat.reduceEqDiff, Int.reduceBEq, Int.reduceBNe, Int.reduceLT, Int.reduceLE, Int.reduceAdd, Int.reduceSub, Int.reduceMul, kAgg, scD, List.all_cons, List.all_nil]
  · have hk' : k = sc.length := by
      have : ¬ k < sc.length := by simpa using h
      omega
    rw [hk', List.take_length] at hpre
    simp only [hpre, if_true, word, nums, nats, zv, nv, bv, sv, VL, VB, BEq.rfl, V1, V2, V3, V4, V5, V6, V7, V8, V9, V10, V11, V12, V13, VE, Nat.reduceBEq, Nat.reduceAdd, Nat.reduceSub, Nat.reduceMul, Nat.reduceLeDiff, Nat.reduceLT, Nat.reduceEqDiff, Int.reduceBEq, Int.reduceBNe, Int.reduceLT, Int.reduceLE, Int.reduceAdd, Int.reduceSub, Int.reduceMul, kAgg, scD, List.all_cons, List.all_nil]

theorem wcheck_ok (w : List Snd) (h : AllIn w) : Ok Try.prog E 55 [.c (word w)] (zv (wordE w)) := by
  refine ok_of_vc (L := []) (ts := [2]) envOK mixed Try.func55 rfl (by kernel_rfl) rfl (by kernel_rfl) rfl fun hl => ?_
  have e32 : decide ((32 : Int) < (w.length : Int)) = decide (32 < w.length) := by congr 1; exact propext ⟨fun h => by omega, fun h => by omega⟩
  simp only [Try.f55, wordE, e32, word, nums, nats, zv, nv, bv, sv, VL, VB, BEq.rfl, V1, V2, V3, V4, V5, V6, V7, V8, V9, V10, V11, V12, V13, VE, Nat.reduceBEq, Nat.reduceAdd, Nat.reduceSub, Nat.reduceMul, Nat.reduceLeDiff, Nat.reduceLT, Nat.reduceEqDiff, Int.reduceBEq, Int.reduceBNe, Int.reduceLT, Int.reduceLE, Int.reduceAdd, Int.reduceSub, Int.reduceMul, kAgg, scD, List.all_cons, List.all_nil]
  by_cases hw : 32 < w.length
  · simp only [decide_eq_true hw, if_pos hw, word, nums, nats, zv, nv, bv, sv, VL, VB, BEq.rfl, V1, V2, V3, V4, V5, V6, V7, V8, V9, V10, V11, V12, V13, VE, Nat.reduceBEq, Nat.reduceAdd, Nat.reduceSub, Nat.reduceMul, Nat.reduceLeDiff, Nat.reduceLT, Nat.reduceEqDiff, Int.reduceBEq, Int.reduceBNe, Int.reduceLT, Int.reduceLE, Int.reduceAdd, Int.reduceSub, Int.reduceMul, kAgg, scD, List.all_cons, List.all_nil]
  simp only [decide_eq_false hw, if_neg hw, word, nums, nats, zv, nv, bv, sv, VL, VB, BEq.rfl, V1, V2, V3, V4, V5, V6, V7, V8, V9, V10, V11, V12, V13, VE, Nat.reduceBEq, Nat.reduceAdd, Nat.reduceSub, Nat.reduceMul, Nat.reduceLeDiff, Nat.reduceLT, Nat.reduceEqDiff, Int.reduceBEq, Int.reduceBNe, Int.reduceLT, Int.reduceLE, Int.reduceAdd, Int.reduceSub, Int.reduceMul, kAgg, scD, List.all_cons, List.all_nil]
  refine LoopVC.mk (Y := Nat) (fun k => k ≤ w.length ∧ (w.take k).all okS = true) (fun k => ⟨[(8, .c (word w)), (9, nv w.length), (10, nv k)], []⟩) (fun k => w.length - k) ⟨0, Enter.id ?_, by omega, rfl⟩ ?_
  · simp only [word, nums, nats, zv, nv, bv, sv, VL, VB, BEq.rfl, V1, V2, V3, V4, V5, V6, V7, V8, V9, V10, V11, V12, V13, VE, Nat.reduceBEq, Nat.reduceAdd, Nat.reduceSub, Nat.reduceMul, Nat.reduceLeDiff, Nat.reduceLT, Nat.reduceEqDiff, Int.reduceBEq, Int.reduceBNe, Int.reduceLT, Int.reduceLE, Int.reduceAdd, Int.reduceSub, Int.reduceMul, kAgg, scD, List.all_cons, List.all_nil]
    rfl
  rintro k ⟨hk, hpre⟩
  simp only [lt_nat, word, nums, nats, zv, nv, bv, sv, VL, VB, BEq.rfl, V1, V2, V3, V4, V5, V6, V7, V8, V9, V10, V11, V12, V13, VE, Nat.reduceBEq, Nat.reduceAdd, Nat.reduceSub, Nat.reduceMul, Nat.reduceLeDiff, Nat.reduceLT, Nat.reduceEqDiff, Int.reduceBEq, Int.reduceBNe, Int.reduceLT, Int.reduceLE, Int.reduceAdd, Int.reduceSub, Int.reduceMul, kAgg, scD, List.all_cons, List.all_nil]
  refine guardB.mk (fun h => ?_) (fun h => ?_)
  · have hk' : k < w.length := by simpa using h
    have hin : ∀ k, (w.getD k Snd.zero).In := by assumption
    have hin := hin k
    have hts := all_take_succ Snd.zero hk' okS
    have hf := fun h => all_false_at (l := w) Snd.zero hk' (p := okS) h
    rw [hpre, Bool.true_and] at hts
    obtain ⟨c, hc⟩ : ∃ c, w.getD k Snd.zero = c := ⟨_, rfl⟩
    rw [hc] at hin hts hf
    simp only [getD_snd w k hk', hc, snd_def, word, nums, nats, zv, nv, bv, sv, VL, VB, BEq.rfl, V1, V2, V3, V4, V5, V6, V7, V8, V9, V10, V11, V12, V13, VE, Nat.reduceBEq, Nat.reduceAdd, Nat.reduceSub, Nat.reduceMul, Nat.reduceLeDiff, Nat.reduceLT, Nat.reduceEqDiff, Int.reduceBEq, Int.reduceBNe, Int.reduceLT, Int.reduceLE, Int.reduceAdd, Int.reduceSub, Int.reduceMul, kAgg, scD, List.all_cons, List.all_nil]
    refine ⟨⟨Int.natCast_nonneg k, hk'⟩, ?_⟩
    have hbad := wvalid_ok c hin
    rw [snd_def] at hbad
    refine CallX.mk hbad rfl ?_
    cases ho : okS c with
    | false =>
      simp only [hf ho, Bool.false_eq_true, if_false, word, nums, nats, zv, nv, bv, sv, VL, VB, BEq.rfl, V1, V2, V3, V4, V5, V6, V7, V8, V9, V10, V11, V12, V13, VE, Nat.reduceBEq, Nat.reduceAdd, Nat.reduceSub, Nat.reduceMul, Nat.reduceLeDiff, Nat.reduceLT, Nat.reduceEqDiff, Int.reduceBEq, Int.reduceBNe, Int.reduceLT, Int.reduceLE, Int.reduceAdd, Int.reduceSub, Int.reduceMul, kAgg, scD, List.all_cons, List.all_nil]
    | true =>
      rw [ho] at hts
      simp only [wrap_nat (k := k) (by omega), word, nums, nats, zv, nv, bv, sv, VL, VB, BEq.rfl, V1, V2, V3, V4, V5, V6, V7, V8, V9, V10, V11, V12, V13, VE, Nat.reduceBEq, Nat.reduceAdd, Nat.reduceSub, Nat.reduceMul, Nat.reduceLeDiff, Nat.reduceLT, Nat.reduceEqDiff, Int.reduceBEq, Int.reduceBNe, Int.reduceLT, Int.reduceLE, Int.reduceAdd, Int.reduceSub, Int.reduceMul, kAgg, scD, List.all_cons, List.all_nil]
      refine ⟨k + 1, Enter.id ?_, ⟨by omega, hts⟩, by show w.length - (k + 1) < w.length - k; omega⟩
      simp only [word, nums, nats, zv, nv, bv, sv, VL, VB, BEq.rfl, V1, V2, V3, V4, V5, V6, V7, V8, V9, V10, V11, V12, V13, VE, Nat.reduceBEq, Nat.reduceAdd, Nat.reduceSub, Nat.reduceMul, Nat.reduceLeDiff, Nat.reduceLT, Nat.reduceEqDiff, Int.reduceBEq, Int.reduceBNe, Int.reduceLT, Int.reduceLE, Int.reduceAdd, Int.reduceSub, Int.reduceMul, kAgg, scD, List.all_cons, List.all_nil]
  · have hk' : k = w.length := by
      have : ¬ k < w.length := by simpa using h
      omega
    rw [hk', List.take_length] at hpre
    simp only [hpre, if_true, word, nums, nats, zv, nv, bv, sv, VL, VB, BEq.rfl, V1, V2, V3, V4, V5, V6, V7, V8, V9, V10, V11, V12, V13, VE, Nat.reduceBEq, Nat.reduceAdd, Nat.reduceSub, Nat.reduceMul, Nat.reduceLeDiff, Nat.reduceLT, Nat.reduceEqDiff, Int.reduceBEq, Int.reduceBNe, Int.reduceLT, Int.reduceLE, Int.reduceAdd, Int.reduceSub, Int.reduceMul, kAgg, scD, List.all_cons, List.all_nil]
theorem rwcheck_ok (w : List Snd) (h : AllIn w) : Ok Try.prog E 53 [.c (word w)] (zv (wordE w)) := by
  refine ok_of_vc (L := []) (ts := [2]) envOK mixed Try.func53 rfl (by kernel_rfl) rfl (by kernel_rfl) rfl fun hl => ?_
  have e32 : decide ((32 : Int) < (w.length : Int)) = decide (32 < w.length) := by congr 1; exact propext ⟨fun h => by omega, fun h => by omega⟩
  simp only [Try.f53, wordE, e32, word, nums, nats, zv, nv, bv, sv, VL, VB, BEq.rfl, V1, V2, V3, V4, V5, V6, V7, V8, V9, V10, V11, V12, V13, VE, Nat.reduceBEq, Nat.reduceAdd, Nat.reduceSub, Nat.reduceMul, Nat.reduceLeDiff, Nat.reduceLT, Nat.reduceEqDiff, Int.reduceBEq, Int.reduceBNe, Int.reduceLT, Int.reduceLE, Int.reduceAdd, Int.reduceSub, Int.reduceMul, kAgg, scD, List.all_cons, List.all_nil]
  by_cases hw : 32 < w.length
  · simp only [decide_eq_true hw, if_pos hw, word, nums, nats, zv, nv, bv, sv, VL, VB, BEq.rfl, V1, V2, V3, V4, V5, V6, V7, V8, V9, V10, V11, V12, V13, VE, Nat.reduceBEq, Nat.reduceAdd, Nat.reduceSub, Nat.reduceMul, Nat.reduceLeDiff, Nat.reduceLT, Nat.reduceEqDiff, Int.reduceBEq, Int.reduceBNe, Int.reduceLT, Int.reduceLE, Int.reduceAdd, Int.reduceSub, Int.reduceMul, kAgg, scD, List.all_cons, List.all_nil]
  simp only [decide_eq_false hw, if_neg hw, word, nums, nats, zv, nv, bv, sv, VL, VB, BEq.rfl, V1, V2, V3, V4, V5, V6, V7, V8, V9, V10, V11, V12, V13, VE, Nat.reduceBEq, Nat.reduceAdd, Nat.reduceSub, Nat.reduceMul, Nat.reduceLeDiff, Nat.reduceLT, Nat.reduceEqDiff, Int.reduceBEq, Int.reduceBNe, Int.reduceLT, Int.reduceLE, Int.reduceAdd, Int.reduceSub, Int.reduceMul, kAgg, scD, List.all_cons, List.all_nil]
  refine LoopVC.mk (Y := Nat) (fun k => k ≤ w.length ∧ (w.take k).all okS = true) (fun k => ⟨[(0, .c (word w)), (3, nv k)], []⟩) (fun k => w.length - k) ⟨0, Enter.id ?_, by omega, rfl⟩ ?_
  · simp only [word, nums, nats, zv, nv, bv, sv, VL, VB, BEq.rfl, V1, V2, V3, V4, V5, V6, V7, V8, V9, V10, V11, V12, V13, VE, Nat.reduceBEq, Nat.reduceAdd, Nat.reduceSub, Nat.reduceMul, Nat.reduceLeDiff, Nat.reduceLT, Nat.reduceEqDiff, Int.reduceBEq, Int.reduceBNe, Int.reduceLT, Int.reduceLE, Int.reduceAdd, Int.reduceSub, Int.reduceMul, kAgg, scD, List.all_cons, List.all_nil]
    rfl
  rintro k ⟨hk, hpre⟩
  simp only [lt_nat, word, nums, nats, zv, nv, bv, sv, VL, VB, BEq.rfl, V1, V2, V3, V4, V5, V6, V7, V8, V9, V10, V11, V12, V13, VE, Nat.reduceBEq, Nat.reduceAdd, Nat.reduceSub, Nat.reduceMul, Nat.reduceLeDiff, Nat.reduceLT, Nat.reduceEqDiff, Int.reduceBEq, Int.reduceBNe, Int.reduceLT, Int.reduceLE, Int.reduceAdd, Int.reduceSub, Int.reduceMul, kAgg, scD, List.all_cons, List.all_nil]
  refine guardB.mk (fun h => ?_) (fun h => ?_)
  · have hk' : k < w.length := by simpa using h
    have hin : ∀ k, (w.getD k Snd.zero).In := by assumption
    have hin := hin k
    have hts := all_take_succ Snd.zero hk' okS
    have hf := fun h => all_false_at (l := w) Snd.zero hk' (p := okS) h
    rw [hpre, Bool.true_and] at hts
    obtain ⟨c, hc⟩ : ∃ c, w.getD k Snd.zero = c := ⟨_, rfl⟩
    rw [hc] at hin hts hf
    simp only [getD_snd w k hk', hc, snd_def, word, nums, nats, zv, nv, bv, sv, VL, VB, BEq.rfl, V1, V2, V3, V4, V5, V6, V7, V8, V9, V10, V11, V12, V13, VE, Nat.reduceBEq, Nat.reduceAdd, Nat.reduceSub, Nat.reduceMul, Nat.reduceLeDiff, Nat.reduceLT, Nat.reduceEqDiff, Int.reduceBEq, Int.reduceBNe, Int.reduceLT, Int.reduceLE, Int.reduceAdd, Int.reduceSub, Int.reduceMul, kAgg, scD, List.all_cons, List.all_nil]
    refine ⟨⟨Int.natCast_nonneg k, hk'⟩, ?_⟩
    have hbad := rwvalid_ok c hin
    rw [snd_def] at hbad
    refine CallX.mk hbad rfl ?_
    cases ho : okS c with
    | false =>
      simp only [hf ho, Bool.false_eq_true, if_false, word, nums, nats, zv, nv, bv, sv, VL, VB, BEq.rfl, V1, V2, V3, V4, V5, V6, V7, V8, V9, V10, V11, V12, V13, VE, Nat.reduceBEq, Nat.reduceAdd, Nat.reduceSub, Nat.reduceMul, Nat.reduceLeDiff, Nat.reduceLT, Nat.reduceEqDiff, Int.reduceBEq, Int.reduceBNe, Int.reduceLT, Int.reduceLE, Int.reduceAdd, Int.reduceSub, Int.reduceMul, kAgg, scD, List.all_cons, List.all_nil]
    | true =>
      rw [ho] at hts
      simp only [wrap_nat (k := k) (by omega), word, nums, nats, zv, nv, bv, sv, VL, VB, BEq.rfl, V1, V2, V3, V4, V5, V6, V7, V8, V9, V10, V11, V12, V13, VE, Nat.reduceBEq, Nat.reduceAdd, Nat.reduceSub, Nat.reduceMul, Nat.reduceLeDiff, Nat.reduceLT, Nat.reduceEqDiff, Int.reduceBEq, Int.reduceBNe, Int.reduceLT, Int.reduceLE, Int.reduceAdd, Int.reduceSub, Int.reduceMul, kAgg, scD, List.all_cons, List.all_nil]
      refine ⟨k + 1, Enter.id ?_, ⟨by omega, hts⟩, by show w.length - (k + 1) < w.length - k; omega⟩
      simp only [word, nums, nats, zv, nv, bv, sv, VL, VB, BEq.rfl, V1, V2, V3, V4, V5, V6, V7, V8, V9, V10, V11, V12, V13, VE, Nat.reduceBEq, Nat.reduceAdd, Nat.reduceSub, Nat.reduceMul, Nat.reduceLeDiff, Nat.reduceLT, Nat.reduceEqDiff, Int.reduceBEq, Int.reduceBNe, Int.reduceLT, Int.reduceLE, Int.reduceAdd, Int.reduceSub, Int.reduceMul, kAgg, scD, List.all_cons, List.all_nil]
  · have hk' : k = w.length := by
      have : ¬ k < w.length := by simpa using h
      omega
    rw [hk', List.take_length] at hpre
    simp only [hpre, if_true, word, nums, nats, zv, nv, bv, sv, VL, VB, BEq.rfl, V1, V2, V3, V4, V5, V6, V7, V8, V9, V10, V11, V12, V13, VE, Nat.reduceBEq, Nat.reduceAdd, Nat.reduceSub, Nat.reduceMul, Nat.reduceLeDiff, Nat.reduceLT, Nat.reduceEqDiff, Int.reduceBEq, Int.reduceBNe, Int.reduceLT, Int.reduceLE, Int.reduceAdd, Int.reduceSub, Int.reduceMul, kAgg, scD, List.all_cons, List.all_nil]

end Go.Cp
end

section
set_option linter.unusedVariables false
set_option linter.unusedSimpArgs false
set_option maxHeartbeats 4000000
set_option maxRecDepth 10000
namespace Go.Cp
open Go Go.Proofs Go.Vx

/-- the number of the last of the first k conditions that a sound satisfies -/
def levTo (sc : List Snd) (s : Snd) : Nat → Nat
  | 0 => 0
  | k + 1 => if satB s (sc.getD k Snd.zero) = true then k + 1 else levTo sc s k
def levN (sc : List Snd) (s : Snd) : Nat := levTo sc s sc.length
def sonN (sc : List Snd) (p : Int) (s : Snd) : Nat := if okR sc p = true then levN sc s else 0
theorem levTo_le (sc : List Snd) (s : Snd) : ∀ k, levTo sc s k ≤ k
  | 0 => Nat.le_refl _
  | k + 1 => by
    have := levTo_le sc s k
    rw [levTo]; split <;> omega

def backS (w : List Snd) : List (List AV) := (List.range w.length).map fun k => [nv (w.length - 1 - k), .ag (w.getD (w.length - 1 - k) Snd.zero).enc]
theorem backS_len (w : List Snd) : (backS w).length = w.length := by simp [backS]
theorem backS_get {w : List Snd} {k : Nat} (h : k < w.length) : (backS w)[k]? = some [nv (w.length - 1 - k), .ag (w.getD (w.length - 1 - k) Snd.zero).enc] := by simp [backS, h]
theorem Backward_ok (w : List Snd) : OkM Try.prog E 59 [.c (word w)] [] (.fn 69 [.bp 2001 0]) [(2001, .cells [.c (word w)])] := by
  refine okM_of_vc (L := []) (ts := [2]) envOK mixed Try.func59 rfl (by kernel_rfl) rfl (by decide) (by kernel_rfl) rfl fun hl hlb => ?_
  simp only [Try.f59, word, nums, nats, zv, nv, bv, sv, VL, VB, BEq.rfl, V1, V2, V3, V4, V5, V6, V7, V8, V9, V10, V11, V12, V13, VE, Nat.reduceBEq, Nat.reduceAdd, Nat.reduceSub, Nat.reduceMul, Nat.reduceLeDiff, Nat.reduceLT, Nat.reduceEqDiff, Int.reduceBEq, Int.reduceBNe, Int.reduceLT, Int.reduceLE, Int.reduceAdd, Int.reduceSub, Int.reduceMul, kAgg, scD, List.all_cons, List.all_nil]
  refine Enter.mk [] [] [(2001, 1)] ?_
  simp only [word, nums, nats, zv, nv, bv, sv, VL, VB, BEq.rfl, V1, V2, V3, V4, V5, V6, V7, V8, V9, V10, V11, V12, V13, VE, Nat.reduceBEq, Nat.reduceAdd, Nat.reduceSub, Nat.reduceMul, Nat.reduceLeDiff, Nat.reduceLT, Nat.reduceEqDiff, Int.reduceBEq, Int.reduceBNe, Int.reduceLT, Int.reduceLE, Int.reduceAdd, Int.reduceSub, Int.reduceMul, kAgg, scD, List.all_cons, List.all_nil]
theorem back_seq (w : List Snd) (hn : w.length ≤ 63) : SeqM Try.prog E 69 [.bp 2001 0] [(2001, .cells [.c (word w)])] (backS w) := by
  refine seqM_of_vc (L := []) envOK mixed Try.func69 rfl (by kernel_rfl) rfl (by kernel_rfl) rfl fun hl l => ?_
  have hw0 : IntKind.i64.wrap ((w.length : Int) - 1) = (w.length : Int) - 1 := wrap_in (by omega) (by omega)
  simp only [Try.f69, hw0, word, nums, nats, zv, nv, bv, sv, VL, VB, BEq.rfl, V1, V2, V3, V4, V5, V6, V7, V8, V9, V10, V11, V12, V13, VE, Nat.reduceBEq, Nat.reduceAdd, Nat.reduceSub, Nat.reduceMul, Nat.reduceLeDiff, Nat.reduceLT, Nat.reduceEqDiff, Int.reduceBEq, Int.reduceBNe, Int.reduceLT, Int.reduceLE, Int.reduceAdd, Int.reduceSub, Int.reduceMul, kAgg, scD, List.all_cons, List.all_nil]
  refine LoopY.mk (Y := Nat) (fun k => k ≤ w.length) some (fun k => ⟨[(0, yieldV l), (1, .bp 2001 0), (3, zv ((w.length : Int) - 1 - (k : Int)))], [(2001, .cells [.c (word w)])]⟩) (fun k => w.length - k) ⟨0, rfl, Enter.id ?_, by omega⟩ ?_
  · have e0 : (w.length : Int) - 1 - ((0 : Nat) : Int) = (w.length : Int) - 1 := by omega
    simp only [yieldV, e0, word, nums, nats, zv, nv, bv, sv, VL, VB, BEq.rfl, V1, V2, V3, V4, V5, V6, V7, V8, V9, V10, V11, V12, V13, VE, Nat.reduceBEq, Nat.reduceAdd, Nat.reduceSub, Nat.reduceMul, Nat.reduceLeDiff, Nat.reduceLT, Nat.reduceEqDiff, Int.reduceBEq, Int.reduceBNe, Int.reduceLT, Int.reduceLE, Int.reduceAdd, Int.reduceSub, Int.reduceMul, kAgg, scD, List.all_cons, List.all_nil]
  intro k hk
  have e1 : decide ((0 : Int) ≤ (w.length : Int) - 1 - (k : Int)) = decide (k < w.length) := by congr 1; exact propext ⟨fun h => by omega, fun h => by omega⟩
  simp only [yieldV, e1, word, nums, nats, zv, nv, bv, sv, VL, VB, BEq.rfl, V1, V2, V3, V4, V5, V6, V7, V8, V9, V10, V11, V12, V13, VE, Nat.reduceBEq, Nat.reduceAdd, Nat.reduceSub, Nat.reduceMul, Nat.reduceLeDiff, Nat.reduceLT, Nat.reduceEqDiff, Int.reduceBEq, Int.reduceBNe, Int.reduceLT, Int.reduceLE, Int.reduceAdd, Int.reduceSub, Int.reduceMul, kAgg, scD, List.all_cons, List.all_nil]
  refine guardB.mk (fun h => ?_) (fun h => ?_)
  · have hk' : k < w.length := by simpa using h
    clear h
    obtain ⟨v, hv⟩ : ∃ v, w.length - 1 - k = v := ⟨_, rfl⟩
    have hvi : (w.length : Int) - 1 - (k : Int) = (v : Int) := by omega
    have hget := backS_get hk'
    rw [hv, snd_def] at hget
    have hw1 : IntKind.i64.wrap ((v : Int) - 1) = (w.length : Int) - 1 - ((k + 1 : Nat) : Int) := by rw [wrap_in (by omega) (by omega)]; omega
    simp only [hvi, getD_snd w v (by omega), snd_def, word, nums, nats, zv, nv, bv, sv, VL, VB, BEq.rfl, V1, V2, V3, V4, V5, V6, V7, V8, V9, V10, V11, V12, V13, VE, Nat.reduceBEq, Nat.reduceAdd, Nat.reduceSub, Nat.reduceMul, Nat.reduceLeDiff, Nat.reduceLT, Nat.reduceEqDiff, Int.reduceBEq, Int.reduceBNe, Int.reduceLT, Int.reduceLE, Int.reduceAdd, Int.reduceSub, Int.reduceMul, kAgg, scD, List.all_cons, List.all_nil]
    refine ⟨⟨Int.natCast_nonneg v, by omega⟩, ?_⟩
    refine YieldVC.mk (k := k) rfl hget ?_ ?_
    · simp only [hw1, word, nums, nats, zv, nv, bv, sv, VL, VB, BEq.rfl, V1, V2, V3, V4, V5, V6, V7, V8, V9, V10, V11, V12, V13, VE, Nat.reduceBEq, Nat.reduceAdd, Nat.reduceSub, Nat.reduceMul, Nat.reduceLeDiff, Nat.reduceLT, Nat.reduceEqDiff, Int.reduceBEq, Int.reduceBNe, Int.reduceLT, Int.reduceLE, Int.reduceAdd, Int.reduceSub, Int.reduceMul, kAgg, scD, List.all_cons, List.all_nil]
      refine ⟨k + 1, rfl, Enter.id ?_, by omega, by show w.length - (k + 1) < w.length - k; omega⟩
      simp only [word, nums, nats, zv, nv, bv, sv, VL, VB, BEq.rfl, V1, V2, V3, V4, V5, V6, V7, V8, V9, V10, V11, V12, V13, VE, Nat.reduceBEq, Nat.reduceAdd, Nat.reduceSub, Nat.reduceMul, Nat.reduceLeDiff, Nat.reduceLT, Nat.reduceEqDiff, Int.reduceBEq, Int.reduceBNe, Int.reduceLT, Int.reduceLE, Int.reduceAdd, Int.reduceSub, Int.reduceMul, kAgg, scD, List.all_cons, List.all_nil]
    · simp only [word, nums, nats, zv, nv, bv, sv, VL, VB, BEq.rfl, V1, V2, V3, V4, V5, V6, V7, V8, V9, V10, V11, V12, V13, VE, Nat.reduceBEq, Nat.reduceAdd, Nat.reduceSub, Nat.reduceMul, Nat.reduceLeDiff, Nat.reduceLT, Nat.reduceEqDiff, Int.reduceBEq, Int.reduceBNe, Int.reduceLT, Int.reduceLE, Int.reduceAdd, Int.reduceSub, Int.reduceMul, kAgg, scD, List.all_cons, List.all_nil]
  · have hk' : k = w.length := by
      have : ¬ k < w.length := by simpa using h
      omega
    subst hk'
    simp only [word, nums, nats, zv, nv, bv, sv, VL, VB, BEq.rfl, V1, V2, V3, V4, V5, V6, V7, V8, V9, V10, V11, V12, V13, VE, Nat.reduceBEq, Nat.reduceAdd, Nat.reduceSub, Nat.reduceMul, Nat.reduceLeDiff, Nat.reduceLT, Nat.reduceEqDiff, Int.reduceBEq, Int.reduceBNe, Int.reduceLT, Int.reduceLE, Int.reduceAdd, Int.reduceSub, Int.reduceMul, kAgg, scD, List.all_cons, List.all_nil]
    exact (backS_len _).symm

theorem level_ok (sc : List Snd) (p : Int) (s : Snd) (hsc : AllIn sc) (hs : s.In) (hn : sc.length ≤ 12) : Ok Try.prog E 47 [.ag (ruleD sc p), .ag s.enc] (nv (levN sc s)) := by
  refine ok_of_vcC (L := []) (rs := [.cell 4 3]) envOK mixed Try.func47 rfl (by kernel_rfl) rfl (by kernel_rfl) rfl fun hl => ?_
  simp only [Try.f47, snd_def, word, nums, nats, zv, nv, bv, sv, VL, VB, BEq.rfl, V1, V2, V3, V4, V5, V6, V7, V8, V9, V10, V11, V12, V13, VE, Nat.reduceBEq, Nat.reduceAdd, Nat.reduceSub, Nat.reduceMul, Nat.reduceLeDiff, Nat.reduceLT, Nat.reduceEqDiff, Int.reduceBEq, Int.reduceBNe, Int.reduceLT, Int.reduceLE, Int.reduceAdd, Int.reduceSub, Int.reduceMul, kAgg, scD, List.all_cons, List.all_nil]
  refine CallX.mut (CallMVC.mk [] [(2001, 9)] (Backward_ok sc) ?_ ?_)
  · simp only [word, nums, nats, zv, nv, bv, sv, VL, VB, BEq.rfl, V1, V2, V3, V4, V5, V6, V7, V8, V9, V10, V11, V12, V13, VE, Nat.reduceBEq, Nat.reduceAdd, Nat.reduceSub, Nat.reduceMul, Nat.reduceLeDiff, Nat.reduceLT, Nat.reduceEqDiff, Int.reduceBEq, Int.reduceBNe, Int.reduceLT, Int.reduceLE, Int.reduceAdd, Int.reduceSub, Int.reduceMul, kAgg, scD, List.all_cons, List.all_nil]
  simp only [word, nums, nats, zv, nv, bv, sv, VL, VB, BEq.rfl, V1, V2, V3, V4, V5, V6, V7, V8, V9, V10, V11, V12, V13, VE, Nat.reduceBEq, Nat.reduceAdd, Nat.reduceSub, Nat.reduceMul, Nat.reduceLeDiff, Nat.reduceLT, Nat.reduceEqDiff, Int.reduceBEq, Int.reduceBNe, Int.reduceLT, Int.reduceLE, Int.reduceAdd, Int.reduceSub, Int.reduceMul, kAgg, scD, List.all_cons, List.all_nil]
  refine RangeVC.mk (Y := Nat) [(2001, 9)] [] [] (back_seq sc (by omega)) (fun k y => y = k ∧ k ≤ sc.length ∧ levN sc s = levTo sc s (sc.length - k)) (fun _ => ⟨[(2, .bp 2 0), (3, .bp 3 0), (4, .bp 4 0)], [(2, .cells [.c (word sc), zv p]), (3, .cells [.c (.sc (.int .u32 s.plus)), .c (.sc (.int .u32 s.minus))]), (4, .cells [zv 0])]⟩) rfl ?_ ?_ ⟨0, ?_, rfl, by omega, rfl⟩ ?_ ?_
  · simp only [word, nums, nats, zv, nv, bv, sv, VL, VB, BEq.rfl, V1, V2, V3, V4, V5, V6, V7, V8, V9, V10, V11, V12, V13, VE, Nat.reduceBEq, Nat.reduceAdd, Nat.reduceSub, Nat.reduceMul, Nat.reduceLeDiff, Nat.reduceLT, Nat.reduceEqDiff, Int.reduceBEq, Int.reduceBNe, Int.reduceLT, Int.reduceLE, Int.reduceAdd, Int.reduceSub, Int.reduceMul, kAgg, scD, List.all_cons, List.all_nil]
  · intro e he
    simp only [backS, List.mem_map] at he
    obtain ⟨i, _, rfl⟩ := he
    rfl
  · simp only [word, nums, nats, zv, nv, bv, sv, VL, VB, BEq.rfl, V1, V2, V3, V4, V5, V6, V7, V8, V9, V10, V11, V12, V13, VE, Nat.reduceBEq, Nat.reduceAdd, Nat.reduceSub, Nat.reduceMul, Nat.reduceLeDiff, Nat.reduceLT, Nat.reduceEqDiff, Int.reduceBEq, Int.reduceBNe, Int.reduceLT, Int.reduceLE, Int.reduceAdd, Int.reduceSub, Int.reduceMul, kAgg, scD, List.all_cons, List.all_nil]
  · rintro k e y he ⟨rfl, hk, hlev⟩
    have hk' : y < sc.length := by
      have := (List.getElem?_eq_some_iff.1 he).1
      rwa [backS_len] at this
    rw [backS_get hk'] at he
    injection he with he
    subst he
    obtain ⟨v, hv⟩ : ∃ v, sc.length - 1 - y = v := ⟨_, rfl⟩
    have hin := hsc v
    obtain ⟨c, hc⟩ : ∃ c, sc.getD v Snd.zero = c := ⟨_, rfl⟩
    rw [hc] at hin
    have hsat := sat_ok s c hs hin
    rw [snd_def, snd_def] at hsat
    rw [show sc.length - y = v + 1 by omega, levTo, hc] at hlev
    simp only [hv, hc, snd_def, word, nums, nats, zv, nv, bv, sv, VL, VB, BEq.rfl, V1, V2, V3, V4, V5, V6, V7, V8, V9, V10, V11, V12, V13, VE, Nat.reduceBEq, Nat.reduceAdd, Nat.reduceSub, Nat.reduceMul, Nat.reduceLeDiff, Nat.reduceLT, Nat.reduceEqDiff, Int.reduceBEq, Int.reduceBNe, Int.reduceLT, Int.reduceLE, Int.reduceAdd, Int.reduceSub, Int.reduceMul, kAgg, scD, List.all_cons, List.all_nil]
    refine CallX.mk hsat rfl ?_
    cases hb : satB s c with
    | true =>
      rw [hb, if_pos rfl] at hlev
      simp only [hlev, wrap_nat (k := v) (by omega), word, nums, nats, zv, nv, bv, sv, VL, VB, BEq.rfl, V1, V2, V3, V4, V5, V6, V7, V8, V9, V10, V11, V12, V13, VE, Nat.reduceBEq, Nat.reduceAdd, Nat.reduceSub, Nat.reduceMul, Nat.reduceLeDiff, Nat.reduceLT, Nat.reduceEqDiff, Int.reduceBEq, Int.reduceBNe, Int.reduceLT, Int.reduceLE, Int.reduceAdd, Int.reduceSub, Int.reduceMul, kAgg, scD, List.all_cons, List.all_nil]
    | false =>
      rw [hb, if_neg (by simp)] at hlev
      simp only [word, nums, nats, zv, nv, bv, sv, VL, VB, BEq.rfl, V1, V2, V3, V4, V5, V6, V7, V8, V9, V10, V11, V12, V13, VE, Nat.reduceBEq, Nat.reduceAdd, Nat.reduceSub, Nat.reduceMul, Nat.reduceLeDiff, Nat.reduceLT, Nat.reduceEqDiff, Int.reduceBEq, Int.reduceBNe, Int.reduceLT, Int.reduceLE, Int.reduceAdd, Int.reduceSub, Int.reduceMul, kAgg, scD, List.all_cons, List.all_nil]
      refine ⟨y + 1, Enter.id ?_, rfl, by omega, by rw [hlev]; congr 1; omega⟩
      simp only [word, nums, nats, zv, nv, bv, sv, VL, VB, BEq.rfl, V1, V2, V3, V4, V5, V6, V7, V8, V9, V10, V11, V12, V13, VE, Nat.reduceBEq, Nat.reduceAdd, Nat.reduceSub, Nat.reduceMul, Nat.reduceLeDiff, Nat.reduceLT, Nat.reduceEqDiff, Int.reduceBEq, Int.reduceBNe, Int.reduceLT, Int.reduceLE, Int.reduceAdd, Int.reduceSub, Int.reduceMul, kAgg, scD, List.all_cons, List.all_nil]
  · rintro y ⟨rfl, hk, hlev⟩
    rw [backS_len, Nat.sub_self] at hlev
    have hlev : levN sc s = 0 := hlev
    simp only [hlev, word, nums, nats, zv, nv, bv, sv, VL, VB, BEq.rfl, V1, V2, V3, V4, V5, V6, V7, V8, V9, V10, V11, V12, V13, VE, Nat.reduceBEq, Nat.reduceAdd, Nat.reduceSub, Nat.reduceMul, Nat.reduceLeDiff, Nat.reduceLT, Nat.reduceEqDiff, Int.reduceBEq, Int.reduceBNe, Int.reduceLT, Int.reduceLE, Int.reduceAdd, Int.reduceSub, Int.reduceMul, kAgg, scD, List.all_cons, List.all_nil]
    rfl

end Go.Cp
end
