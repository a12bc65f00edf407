/-
  Tree: nodes as data; names. Conditions: none.
  Tree: names and trees: the checks. Conditions: none.
  Tree: both checks of trees. Conditions: none.
  Tree: children and leaves. Conditions: none.
  Tree: the way up; check, Children, Depth. Conditions: none.
-/
import Derived.Test.YtiioldgdgfdjeaaMD
import Derived.Laws.Strings
import Derived.Test.YtiioldgdgfdjeaaMQ

section
set_option linter.unusedVariables false
set_option linter.unusedSimpArgs false
set_option maxHeartbeats 4000000
set_option maxRecDepth 10000
namespace Go.Cp
open Go Go.Proofs Go.Vx

structure Node where
  parent : Int
  name : ByteArray
  deriving DecidableEq
def Node.enc (c : Node) : List D := [.sc (.int .i64 c.parent), .sc (.string c.name)]
def Node.zero : Node := ⟨0, ⟨#[]⟩⟩
abbrev nodes (xs : List Node) : D := .sl (xs.map Node.enc)
def num (n : Int) : List D := [.sc (.int .i64 n)]
abbrev nums (xs : List Int) : D := .sl (xs.map num)
/-- a row of costs, as an array's cells -/
def rowE (r : List Int) : List D := r.map fun n => .sc (.int .i64 n)
/-- a slice of numbers in a slice -/
def rowS (r : List Int) : List D := [.sl (r.map num)]
abbrev rowsS (m : List (List Int)) : D := .sl (m.map rowS)
def zv (n : Int) : AV := .c (.sc (.int .i64 n))
def bv (b : Bool) : AV := .c (.sc (.bool b))
def nv (n : Nat) : AV := .c (.sc (.int .i64 n))
def sv (s : ByteArray) : AV := .c (.sc (.string s))

theorem getD_node (xs : List Node) (k : Nat) (h : k < xs.length) : (xs.map Node.enc).getD k [] = (xs.getD k Node.zero).enc := by
  simp [List.getD, List.getElem?_map, List.getElem?_eq_getElem h]
theorem getD_num (xs : List Int) (k : Nat) (h : k < xs.length) : (xs.map num).getD k [] = num (xs.getD k 0) := by
  simp [List.getD, List.getElem?_map, List.getElem?_eq_getElem h]
theorem getD_rowE (xs : List (List Int)) (k : Nat) (h : k < xs.length) : (xs.map rowE).getD k [] = rowE (xs.getD k []) := by
  simp [List.getD, List.getElem?_map, List.getElem?_eq_getElem h]
theorem getD_rowS (xs : List (List Int)) (k : Nat) (h : k < xs.length) : (xs.map rowS).getD k [] = rowS (xs.getD k []) := by
  simp [List.getD, List.getElem?_map, List.getElem?_eq_getElem h]
theorem node_def (c : Node) : c.enc = [.sc (.int .i64 c.parent), .sc (.string c.name)] := rfl
theorem num_def (n : Int) : num n = [.sc (.int .i64 n)] := rfl
theorem rowS_def (r : List Int) : rowS r = [.sl (r.map num)] := rfl
theorem len_of {xs : List (List D)} (h : LenA (.c (.sl xs))) : xs.length ≤ 9223372036854775807 := by
  have h : LenD (.sl xs) := h
  cases h with
  | sl _ h _ => exact h
theorem wrap_of {n : Int} (h : 0 ≤ n) (h' : n ≤ 9223372036854775807) : IntKind.i64.wrap n = n := by
  rw [IntKind.wrap_i64]; omega
theorem wrap_in {n : Int} (h : -9223372036854775808 ≤ n) (h' : n ≤ 9223372036854775807) : IntKind.i64.wrap n = n := by
  rw [IntKind.wrap_i64]; omega
theorem wrap_nat {k : Nat} (h : (k : Int) + 1 ≤ 9223372036854775807) : IntKind.i64.wrap ((k : Int) + 1) = ((k + 1 : Nat) : Int) := by
  rw [IntKind.wrap_i64]; omega
theorem int_beq (x y : Int) : (x == y) = decide (x = y) := rfl
theorem str_beq (a b : ByteArray) : (a.toList == b.toList) = decide (a = b) := by
  rw [ByteArray.toList_eq, ByteArray.toList_eq]
  rw [Bool.eq_iff_iff]
  simp only [beq_iff_eq, decide_eq_true_eq, Array.toList_inj]
  exact ⟨fun h => ByteArray.ext h, fun h => h ▸ rfl⟩
theorem key_beq (a b : ByteArray) : (a.data.toList == b.data.toList) = decide (a = b) := by
  rw [← str_beq, ByteArray.toList_eq, ByteArray.toList_eq]
theorem lt_nat (a b : Nat) : decide ((a : Int) < (b : Int)) = decide (a < b) := by simp
theorem le_nat (a b : Nat) : decide ((a : Int) ≤ (b : Int)) = decide (a ≤ b) := by simp
theorem allLen_num (xs : List Int) : AllLen 1 (xs.map num) := by
  intro y hy
  obtain ⟨n, _, rfl⟩ := List.mem_map.1 hy
  try rfl

/-! names -/
def letterB (c : Int) : Bool := (decide (97 ≤ c) && decide (c ≤ 122)) || ((decide (65 ≤ c) && decide (c ≤ 90)) || ((decide (48 ≤ c) && decide (c ≤ 57)) || decide (c = 45)))
def namedB (s : ByteArray) : Bool := (List.range s.size).all (fun i => letterB (byteAt s i)) && (decide (0 < s.size) && decide (s.size ≤ 24))

theorem letter_ok (c : Int) : Ok Try.prog E 81 [.c (.sc (.int .u8 c))] (bv (letterB c)) := by
  refine ok_of_vc (L := []) (ts := [2]) envOK mixed Try.func81 rfl (by kernel_rfl) rfl (by kernel_rfl) rfl fun hl => ?_
  simp only [Try.f81, Bool.false_or, Bool.true_or, Bool.or_true, Bool.or_false, int_beq, bv, letterB, VZ, BEq.rfl, seval, -Int.reduceNatCast', kAgg, scD, List.all_cons, List.all_nil]
  repeat' (refine guardB.mk (fun h => ?_) (fun h => ?_) <;> simp only [h, Bool.false_or, Bool.true_or, Bool.or_true, Bool.or_false, int_beq, bv, letterB, VZ, BEq.rfl, seval, -Int.reduceNatCast', kAgg, scD, List.all_cons, List.all_nil])
theorem rletter_ok (c : Int) : Ok Try.prog E 82 [.c (.sc (.int .u8 c))] (bv (letterB c)) := by
  refine ok_of_vc (L := []) (ts := [2]) envOK mixed Try.func82 rfl (by kernel_rfl) rfl (by kernel_rfl) rfl fun hl => ?_
  simp only [Try.f82, Bool.false_or, Bool.true_or, Bool.or_true, Bool.or_false, int_beq, bv, letterB, VZ, BEq.rfl, seval, -Int.reduceNatCast', kAgg, scD, List.all_cons, List.all_nil]
  repeat' (refine guardB.mk (fun h => ?_) (fun h => ?_) <;> simp only [h, Bool.false_or, Bool.true_or, Bool.or_true, Bool.or_false, int_beq, bv, letterB, VZ, BEq.rfl, seval, -Int.reduceNatCast', kAgg, scD, List.all_cons, List.all_nil])

end Go.Cp
end

section
set_option linter.unusedVariables false
set_option linter.unusedSimpArgs false
set_option maxHeartbeats 4000000
set_option maxRecDepth 10000
namespace Go.Cp
open Go Go.Proofs Go.Vx

theorem all_range_succ {p : Nat → Bool} {k : Nat} : (List.range (k + 1)).all p = ((List.range k).all p && p k) := by
  rw [List.range_succ, List.all_append]; simp
theorem all_range_false {p : Nat → Bool} {n k : Nat} (h : k < n) (hp : p k = false) : (List.range n).all p = false := by
  rw [List.all_eq_false]
  exact ⟨k, by simpa using h, by simp [hp]⟩

theorem named_ok (s : ByteArray) (hs : s.size ≤ 9223372036854775807) : Ok Try.prog E 58 [sv s] (bv (namedB s)) := by
  refine ok_of_vc (L := []) (ts := [2]) envOK mixed Try.func58 rfl (by kernel_rfl) rfl (by kernel_rfl) rfl fun hl => ?_
  simp only [Try.f58, sv, VZ, BEq.rfl, seval, -Int.reduceNatCast', kAgg, scD, List.all_cons, List.all_nil]
  refine LoopVC.mk (Y := Nat) (fun k => k ≤ s.size ∧ (List.range k).all (fun i => letterB (byteAt s i)) = true) (fun k => ⟨[(0, sv s), (5, nv s.size), (6, nv k)], []⟩) (fun k => s.size - k) ⟨0, Enter.id ?_, by omega, by simp⟩ ?_
  · simp only [sv, nv, VZ, BEq.rfl, seval, -Int.reduceNatCast', kAgg, scD, List.all_cons, List.all_nil]
    try rfl
  · rintro k ⟨hk, hpre⟩
    simp only [sv, nv, lt_nat, VZ, BEq.rfl, seval, -Int.reduceNatCast', kAgg, scD, List.all_cons, List.all_nil]
    refine guardB.mk (fun h => ?_) (fun h => ?_)
    · have hk' : k < s.size := by simpa using h
      simp only [VZ, BEq.rfl, seval, -Int.reduceNatCast', kAgg, scD, List.all_cons, List.all_nil]
      refine ⟨⟨Int.natCast_nonneg k, hk'⟩, ?_⟩
      refine CallX.mk (letter_ok _) rfl ?_
      simp only [bv, VZ, BEq.rfl, seval, -Int.reduceNatCast', kAgg, scD, List.all_cons, List.all_nil]
      refine guardB.mk (fun h => ?_) (fun h => ?_)
      · have h : letterB (byteAt s k) = false := by simpa using h
        simp only [namedB, all_range_false (p := fun i => letterB (byteAt s i)) hk' h, VZ, BEq.rfl, seval, -Int.reduceNatCast', kAgg, scD, List.all_cons, List.all_nil]
      · have h : letterB (byteAt s k) = true := by simpa using h
        simp only [wrap_nat (k := k) (by omega), VZ, BEq.rfl, seval, -Int.reduceNatCast', kAgg, scD, List.all_cons, List.all_nil]
        refine ⟨k + 1, Enter.id ?_, ⟨by omega, by rw [all_range_succ, hpre, h]; rfl⟩, by show s.size - (k + 1) < s.size - k; omega⟩
        simp only [sv, nv, VZ, BEq.rfl, seval, -Int.reduceNatCast', kAgg, scD, List.all_cons, List.all_nil]
    · have hk' : k = s.size := by
        have : ¬ k < s.size := by simpa using h
        omega
      subst hk'
      have e1 : ((0 : Int) < (s.size : Int)) = (0 < s.size) := by simp
      have e2 : ((s.size : Int) ≤ 24) = (s.size ≤ 24) := propext ⟨fun h => by omega, fun h => by omega⟩
      simp only [namedB, hpre, e1, e2, VZ, BEq.rfl, seval, -Int.reduceNatCast', kAgg, scD, List.all_cons, List.all_nil]
      refine guardB.mk (fun h => ?_) (fun h => ?_) <;> simp only [h, bv, e2, VZ, BEq.rfl, seval, -Int.reduceNatCast', kAgg, scD, List.all_cons, List.all_nil]

theorem rname_ok (s : ByteArray) (hs : s.size ≤ 9223372036854775807) : Ok Try.prog E 71 [sv s] (bv (namedB s)) := by
  refine ok_of_vc (L := []) (ts := [2]) envOK mixed Try.func71 rfl (by kernel_rfl) rfl (by kernel_rfl) rfl fun hl => ?_
  simp only [Try.f71, sv, VZ, BEq.rfl, seval, -Int.reduceNatCast', kAgg, scD, List.all_cons, List.all_nil]
  refine LoopVC.mk (Y := Nat) (fun k => k ≤ s.size ∧ (List.range k).all (fun i => letterB (byteAt s i)) = true) (fun k => ⟨[(0, sv s), (3, nv k)], []⟩) (fun k => s.size - k) ⟨0, Enter.id ?_, by omega, by simp⟩ ?_
  · simp only [sv, nv, VZ, BEq.rfl, seval, -Int.reduceNatCast', kAgg, scD, List.all_cons, List.all_nil]
    try rfl
  · rintro k ⟨hk, hpre⟩
    simp only [sv, nv, lt_nat, VZ, BEq.rfl, seval, -Int.reduceNatCast', kAgg, scD, List.all_cons, List.all_nil]
    refine guardB.mk (fun h => ?_) (fun h => ?_)
    · have hk' : k < s.size := by simpa using h
      simp only [VZ, BEq.rfl, seval, -Int.reduceNatCast', kAgg, scD, List.all_cons, List.all_nil]
      refine ⟨⟨Int.natCast_nonneg k, hk'⟩, ?_⟩
      refine CallX.mk (rletter_ok _) rfl ?_
      simp only [bv, VZ, BEq.rfl, seval, -Int.reduceNatCast', kAgg, scD, List.all_cons, List.all_nil]
      refine guardB.mk (fun h => ?_) (fun h => ?_)
      · have h : letterB (byteAt s k) = false := by simpa using h
        simp only [namedB, all_range_false (p := fun i => letterB (byteAt s i)) hk' h, VZ, BEq.rfl, seval, -Int.reduceNatCast', kAgg, scD, List.all_cons, List.all_nil]
      · have h : letterB (byteAt s k) = true := by simpa using h
        simp only [wrap_nat (k := k) (by omega), VZ, BEq.rfl, seval, -Int.reduceNatCast', kAgg, scD, List.all_cons, List.all_nil]
        refine ⟨k + 1, Enter.id ?_, ⟨by omega, by rw [all_range_succ, hpre, h]; rfl⟩, by show s.size - (k + 1) < s.size - k; omega⟩
        simp only [sv, nv, VZ, BEq.rfl, seval, -Int.reduceNatCast', kAgg, scD, List.all_cons, List.all_nil]
    · have hk' : k = s.size := by
        have : ¬ k < s.size := by simpa using h
        omega
      subst hk'
      have e1 : ((1 : Int) ≤ (s.size : Int)) = (0 < s.size) := propext ⟨fun h => by omega, fun h => by omega⟩
      have e2 : ((s.size : Int) ≤ 24) = (s.size ≤ 24) := propext ⟨fun h => by omega, fun h => by omega⟩
      simp only [namedB, hpre, e1, e2, VZ, BEq.rfl, seval, -Int.reduceNatCast', kAgg, scD, List.all_cons, List.all_nil]
      refine guardB.mk (fun h => ?_) (fun h => ?_) <;> simp only [h, bv, e2, VZ, BEq.rfl, seval, -Int.reduceNatCast', kAgg, scD, List.all_cons, List.all_nil]

/-! trees -/
/-- what is asked of node v -/
def okPar (t : List Node) (v : Nat) : Bool := if v = 0 then decide ((t.getD v Node.zero).parent = -1) else decide (0 ≤ (t.getD v Node.zero).parent) && decide ((t.getD v Node.zero).parent < v)
def fresh (t : List Node) (v : Nat) : Bool := (List.range v).all fun u => decide ((t.getD u Node.zero).name ≠ (t.getD v Node.zero).name)
def okNode (t : List Node) (v : Nat) : Bool := okPar t v && (namedB (t.getD v Node.zero).name && fresh t v)
def okTree (t : List Node) : Bool := decide (0 < t.length) && (decide (t.length ≤ 63) && (List.range t.length).all (okNode t))
def Small (t : List Node) : Prop := ∀ k, k < t.length → (t.getD k Node.zero).name.size ≤ 9223372036854775807
def errOf (b : Bool) : Int := if b then 0 else 16

theorem okTree_len {t : List Node} (h : okTree t = true) : 0 < t.length ∧ t.length ≤ 63 := by
  simp only [okTree, Bool.and_eq_true, decide_eq_true_eq] at h
  exact ⟨h.1, h.2.1⟩

def seenOf (t : List Node) (k : Nat) : List (Value × Value) := (t.take k).map fun x => (.string x.name, .bool true)
theorem seen_succ {t : List Node} {k : Nat} (h : k < t.length) : seenOf t (k + 1) = seenOf t k ++ [(.string (t.getD k Node.zero).name, .bool true)] := by
  rw [seenOf, seenOf, List.take_add_one, List.map_append]
  simp [List.getElem?_eq_getElem h, List.getD]
theorem mfind_str (l : List Node) (s : ByteArray) : mfind (.string s) (l.map fun x => (Value.string x.name, Value.bool true)) = if l.all (fun x => decide (x.name ≠ s)) then none else some (.bool true) := by
  induction l with
  | nil => rfl
  | cons a r ih =>
    rw [List.map_cons, mfind, keyEq, key_beq]
    by_cases h : s = a.name
    · simp [h]
    · rw [decide_eq_false h]
      simp only [List.all_cons, decide_eq_true (show a.name ≠ s from fun e => h e.symm), Bool.true_and]
      exact ih
theorem mput_str (l : List Node) (s : ByteArray) (h : l.all (fun x => decide (x.name ≠ s)) = true) : mput (.string s) (.bool true) (l.map fun x => (Value.string x.name, Value.bool true)) = (l.map fun x => (Value.string x.name, Value.bool true)) ++ [(.string s, .bool true)] := by
  induction l with
  | nil => rfl
  | cons a r ih =>
    rw [List.all_cons, Bool.and_eq_true, decide_eq_true_eq] at h
    rw [List.map_cons, mput, keyEq, key_beq, decide_eq_false (fun e => h.1 e.symm), List.cons_append, ← ih h.2]
theorem all_take {t : List Node} {k : Nat} (h : k ≤ t.length) (p : Node → Bool) : (t.take k).all p = (List.range k).all fun u => p (t.getD u Node.zero) := by
  induction k with
  | zero => rfl
  | succ k ih =>
    rw [all_range_succ, ← ih (by omega), List.take_add_one, List.all_append]
    simp [List.getElem?_eq_getElem (show k < t.length by omega), List.getD]
theorem mfind_seen {t : List Node} {k : Nat} (h : k < t.length) : mfind (.string (t.getD k Node.zero).name) (seenOf t k) = if fresh t k then none else some (.bool true) := by
  rw [seenOf, mfind_str, all_take (by omega)]; rfl
theorem mput_seen {t : List Node} {k : Nat} (h : k < t.length) (hf : fresh t k = true) : mput (.string (t.getD k Node.zero).name) (.bool true) (seenOf t k) = seenOf t (k + 1) := by
  rw [seen_succ h, seenOf, mput_str _ _ (by rw [all_take (by omega)]; exact hf)]

end Go.Cp
end

section
set_option linter.unusedVariables false
set_option linter.unusedSimpArgs false
set_option maxHeartbeats 4000000
set_option maxRecDepth 10000
namespace Go.Cp
open Go Go.Proofs Go.Vx

theorem okTree_bad {t : List Node} {k : Nat} (h : k < t.length) (hb : okNode t k = false) : okTree t = false := by
  rw [okTree, all_range_false h hb]; simp

theorem check_ok (t : List Node) (hs : Small t) : Ok Try.prog E 19 [.c (nodes t)] (zv (errOf (okTree t))) := by
  refine ok_of_vc (L := []) (ts := [2]) envOK mixed Try.func19 rfl (by kernel_rfl) rfl (by kernel_rfl) rfl fun hl => ?_
  have hlen := len_of (hl _ (List.mem_cons_self ..))
  rw [List.length_map] at hlen
  have e0 : ((t.length : Int) == 0) = decide (t.length = 0) := by rw [int_beq]; congr 1; exact propext ⟨fun h => by omega, fun h => by omega⟩
  have e1 : decide ((63 : Int) < (t.length : Int)) = decide (63 < t.length) := by congr 1; exact propext ⟨fun h => by omega, fun h => by omega⟩
  simp only [Try.f19, e0, e1, zv, bv, sv, nv, VZ, BEq.rfl, seval, -Int.reduceNatCast', kAgg, scD, List.all_cons, List.all_nil]
  refine guardB.mk (fun h => ?_) (fun h => ?_) <;> simp only [h, e1, zv, bv, sv, nv, VZ, BEq.rfl, seval, -Int.reduceNatCast', kAgg, scD, List.all_cons, List.all_nil]
  · have h : t.length = 0 := by simpa using h
    simp only [okTree, h, errOf, zv, bv, sv, nv, VZ, BEq.rfl, seval, -Int.reduceNatCast', kAgg, scD, List.all_cons, List.all_nil]
    try rfl
  · have h0 : t.length ≠ 0 := by simpa using h
    clear h
    refine guardB.mk (fun h => ?_) (fun h => ?_) <;> simp only [h, zv, bv, sv, nv, VZ, BEq.rfl, seval, -Int.reduceNatCast', kAgg, scD, List.all_cons, List.all_nil]
    · have h : 63 < t.length := by simpa using h
      simp only [okTree, decide_eq_false (show ¬ t.length ≤ 63 by omega), errOf, zv, bv, sv, nv, VZ, BEq.rfl, seval, -Int.reduceNatCast', kAgg, scD, List.all_cons, List.all_nil]
      try rfl
    · have h63 : t.length ≤ 63 := by have : ¬ 63 < t.length := by simpa using h
                                     omega
      clear h
      refine LoopVC.mk (Y := Nat) (fun k => k ≤ t.length ∧ (List.range k).all (okNode t) = true) (fun k => ⟨[(3, .mp 14), (15, .c (nodes t)), (16, nv t.length), (17, nv k)], [(14, .map 9 4 (seenOf t k))]⟩) (fun k => t.length - k) ⟨0, Enter.mk [] [] [] ?_, by omega, rfl⟩ ?_
      · simp only [zv, bv, sv, nv, VZ, BEq.rfl, seval, -Int.reduceNatCast', kAgg, scD, List.all_cons, List.all_nil]
        exact ⟨rfl, rfl⟩
      · rintro k ⟨hk, hpre⟩
        simp only [lt_nat, zv, bv, sv, nv, VZ, BEq.rfl, seval, -Int.reduceNatCast', kAgg, scD, List.all_cons, List.all_nil]
        refine guardB.mk (fun h => ?_) (fun h => ?_)
        · have hk' : k < t.length := by simpa using h
          clear h
          have hfind := mfind_seen hk'
          have hput := mput_seen hk'
          have hbad : okNode t k = false → okTree t = false := okTree_bad hk'
          have hgood : okNode t k = true → (List.range (k + 1)).all (okNode t) = true := fun e => by rw [all_range_succ, hpre, e]; rfl
          have hsz := hs k hk'
          have hok : okNode t k = (okPar t k && (namedB (t.getD k Node.zero).name && fresh t k)) := rfl
          have hpar : okPar t k = if k = 0 then decide ((t.getD k Node.zero).parent = -1) else decide (0 ≤ (t.getD k Node.zero).parent) && decide ((t.getD k Node.zero).parent < k) := rfl
          obtain ⟨x, hx⟩ : ∃ x, t.getD k Node.zero = x := ⟨_, rfl⟩
          obtain ⟨p, s⟩ := x
          rw [hx] at hfind hput hsz hok hpar
          simp only at hfind hput hsz hok hpar
          obtain ⟨f, hf⟩ : ∃ f, fresh t k = f := ⟨_, rfl⟩
          obtain ⟨g, hg⟩ : ∃ g, okPar t k = g := ⟨_, rfl⟩
          obtain ⟨n, hn⟩ : ∃ n, namedB s = n := ⟨_, rfl⟩
          rw [hf] at hfind hput hok
          rw [hg] at hpar hok
          rw [hn] at hok
          obtain ⟨m, hm⟩ : ∃ m : Int, (bif decide (0 < (k : Int) - 1) then 0 else (k : Int) - 1) = m := ⟨_, rfl⟩
          have hme : m = if k = 0 then -1 else 0 := by
            rw [← hm]
            by_cases hk0 : k = 0
            · subst hk0; rfl
            · rw [if_neg hk0]
              by_cases hk1 : k = 1
              · subst hk1; rfl
              · rw [decide_eq_true (show (0 : Int) < (k : Int) - 1 by omega)]; rfl
          simp only [wrap_in (n := (k : Int) - 1) (by omega) (by omega), hm, getD_node t k hk', hx, node_def, zv, bv, sv, nv, VZ, BEq.rfl, seval, -Int.reduceNatCast', kAgg, scD, List.all_cons, List.all_nil]
          refine ⟨⟨Int.natCast_nonneg k, hk'⟩, ?_⟩
          refine guardB.mk (fun h => ?_) (fun h => ?_) <;> simp only [h, wrap_in (n := (k : Int) - 1) (by omega) (by omega), hm, getD_node t k hk', hx, node_def, zv, bv, sv, nv, VZ, BEq.rfl, seval, -Int.reduceNatCast', kAgg, scD, List.all_cons, List.all_nil]
          · have h : (k : Int) ≤ p := by simpa using h
            have hg' : g = false := by
              rw [hpar]; split
              · exact decide_eq_false (by omega)
              · rw [decide_eq_false (show ¬ p < (k : Int) by omega), Bool.and_false]
            subst hg'
            simp only [hbad hok, errOf, zv, bv, sv, nv, VZ, BEq.rfl, seval, -Int.reduceNatCast', kAgg, scD, List.all_cons, List.all_nil]
            try rfl
          · have h1 : ¬ (k : Int) ≤ p := by simpa using h
            refine guardB.mk (fun h => ?_) (fun h => ?_) <;> simp only [h, hm, getD_node t k hk', hx, node_def, zv, bv, sv, nv, VZ, BEq.rfl, seval, -Int.reduceNatCast', kAgg, scD, List.all_cons, List.all_nil]
            · have h : p < m := by simpa using h
              have hg' : g = false := by
                rw [hpar]; split
                · rename_i hk0; rw [if_pos hk0] at hme; exact decide_eq_false (by omega)
                · rename_i hk0; rw [if_neg hk0] at hme; rw [decide_eq_false (show ¬ 0 ≤ p by omega), Bool.false_and]
              subst hg'
              simp only [hbad hok, errOf, zv, bv, sv, nv, VZ, BEq.rfl, seval, -Int.reduceNatCast', kAgg, scD, List.all_cons, List.all_nil]
              try rfl
            · have h2 : ¬ p < m := by simpa using h
              have hg' : g = true := by
                rw [hpar]; split
                · rename_i hk0; rw [if_pos hk0] at hme; exact decide_eq_true (by omega)
                · rename_i hk0; rw [if_neg hk0] at hme; rw [decide_eq_true (show 0 ≤ p by omega), decide_eq_true (show p < (k : Int) by omega)]; rfl
              subst hg'
              refine CallX.mk (named_ok _ hsz) rfl ?_
              simp only [hn, zv, bv, sv, nv, VZ, BEq.rfl, seval, -Int.reduceNatCast', kAgg, scD, List.all_cons, List.all_nil]
              cases n with
              | false =>
                simp only [zv, bv, sv, nv, VZ, BEq.rfl, seval, -Int.reduceNatCast', kAgg, scD, List.all_cons, List.all_nil]
                simp only [hbad hok, errOf, zv, bv, sv, nv, VZ, BEq.rfl, seval, -Int.reduceNatCast', kAgg, scD, List.all_cons, List.all_nil]
                try rfl
              | true =>
                cases f with
                | false =>
                  simp only [hfind, if_neg, Bool.false_eq_true, if_false, zv, bv, sv, nv, VZ, BEq.rfl, seval, -Int.reduceNatCast', kAgg, scD, List.all_cons, List.all_nil]
                  simp only [hbad hok, errOf, zv, bv, sv, nv, VZ, BEq.rfl, seval, -Int.reduceNatCast', kAgg, scD, List.all_cons, List.all_nil]
                  try rfl
                | true =>
                  simp only [hfind, if_true, wrap_nat (k := k) (by omega), hput rfl, zv, bv, sv, nv, VZ, BEq.rfl, seval, -Int.reduceNatCast', kAgg, scD, List.all_cons, List.all_nil]
                  refine ⟨k + 1, Enter.mk [] [] [] ?_, ⟨by omega, hgood hok⟩, by show t.length - (k + 1) < t.length - k; omega⟩
                  simp only [zv, bv, sv, nv, VZ, BEq.rfl, seval, -Int.reduceNatCast', kAgg, scD, List.all_cons, List.all_nil]
        · have hk' : k = t.length := by
            have : ¬ k < t.length := by simpa using h
            omega
          subst hk'
          simp only [okTree, hpre, decide_eq_true (show 0 < t.length by omega), decide_eq_true h63, errOf, zv, bv, sv, nv, VZ, BEq.rfl, seval, -Int.reduceNatCast', kAgg, scD, List.all_cons, List.all_nil]
          try rfl

theorem okTree_bad0 {t : List Node} (h : (t.getD 0 Node.zero).parent ≠ -1) (h0 : 0 < t.length) : okTree t = false := by
  refine okTree_bad h0 ?_
  rw [okNode, okPar, if_pos rfl, decide_eq_false h]; rfl
theorem fresh_bad {t : List Node} {v u : Nat} (h : u < v) (hu : (t.getD u Node.zero).name = (t.getD v Node.zero).name) : fresh t v = false := by
  rw [fresh, all_range_false h]
  exact decide_eq_false (fun e => e hu)

theorem rcheck_ok (t : List Node) (hs : Small t) : Ok Try.prog E 39 [.c (nodes t)] (zv (errOf (okTree t))) := by
  refine ok_of_vc (L := []) (ts := [2]) envOK mixed Try.func39 rfl (by kernel_rfl) rfl (by kernel_rfl) rfl fun hl => ?_
  have hlen := len_of (hl _ (List.mem_cons_self ..))
  rw [List.length_map] at hlen
  have e0 : decide ((t.length : Int) < 1) = decide (t.length < 1) := by congr 1; exact propext ⟨fun h => by omega, fun h => by omega⟩
  have e1 : decide ((63 : Int) < (t.length : Int)) = decide (63 < t.length) := by congr 1; exact propext ⟨fun h => by omega, fun h => by omega⟩
  simp only [Try.f39, e0, e1, zv, bv, sv, nv, VZ, BEq.rfl, seval, -Int.reduceNatCast', kAgg, scD, List.all_cons, List.all_nil]
  refine guardB.mk (fun h => ?_) (fun h => ?_) <;> simp only [h, e1, zv, bv, sv, nv, VZ, BEq.rfl, seval, -Int.reduceNatCast', kAgg, scD, List.all_cons, List.all_nil]
  · have h : ¬ 0 < t.length := by have : t.length < 1 := by simpa using h
                                  omega
    simp only [okTree, decide_eq_false h, errOf, zv, bv, sv, nv, VZ, BEq.rfl, seval, -Int.reduceNatCast', kAgg, scD, List.all_cons, List.all_nil]
    try rfl
  have h0 : 0 < t.length := by have : ¬ t.length < 1 := by simpa using h
                               omega
  clear h
  refine guardB.mk (fun h => ?_) (fun h => ?_) <;> simp only [h, getD_node t 0 h0, node_def, zv, bv, sv, nv, VZ, BEq.rfl, seval, -Int.reduceNatCast', kAgg, scD, List.all_cons, List.all_nil]
  · have h : 63 < t.length := by simpa using h
    simp only [okTree, decide_eq_false (show ¬ t.length ≤ 63 by omega), errOf, zv, bv, sv, nv, VZ, BEq.rfl, seval, -Int.reduceNatCast', kAgg, scD, List.all_cons, List.all_nil]
    try rfl
  have h63 : t.length ≤ 63 := by have : ¬ 63 < t.length := by simpa using h
                                 omega
  clear h
  refine ⟨h0, ?_⟩
  refine guardB.mk (fun h => ?_) (fun h => ?_) <;> simp only [h, zv, bv, sv, nv, VZ, BEq.rfl, seval, -Int.reduceNatCast', kAgg, scD, List.all_cons, List.all_nil]
  · have h : (t.getD 0 Node.zero).parent ≠ -1 := by simpa using h
    simp only [okTree_bad0 h h0, errOf, zv, bv, sv, nv, VZ, BEq.rfl, seval, -Int.reduceNatCast', kAgg, scD, List.all_cons, List.all_nil]
    try rfl
  have hroot : (t.getD 0 Node.zero).parent = -1 := by simpa using h
  clear h
  refine LoopVC.mk (Y := Nat) (fun k => k ≤ t.length ∧ (List.range k).all (okNode t) = true) (fun k => ⟨[(0, .c (nodes t)), (3, nv k)], []⟩) (fun k => t.length - k) ⟨0, Enter.id ?_, by omega, rfl⟩ ?_
  · simp only [zv, bv, sv, nv, VZ, BEq.rfl, seval, -Int.reduceNatCast', kAgg, scD, List.all_cons, List.all_nil]
    try rfl
  rintro k ⟨hk, hpre⟩
  simp only [lt_nat, zv, bv, sv, nv, VZ, BEq.rfl, seval, -Int.reduceNatCast', kAgg, scD, List.all_cons, List.all_nil]
  refine guardB.mk (fun h => ?_) (fun h => ?_)
  · have hk' : k < t.length := by simpa using h
    clear h
    have hbad : okNode t k = false → okTree t = false := okTree_bad hk'
    have hgood : okNode t k = true → (List.range (k + 1)).all (okNode t) = true := fun e => by rw [all_range_succ, hpre, e]; rfl
    have hsz := hs k hk'
    have hok : okNode t k = (okPar t k && (namedB (t.getD k Node.zero).name && fresh t k)) := rfl
    have hpar : okPar t k = if k = 0 then decide ((t.getD k Node.zero).parent = -1) else decide (0 ≤ (t.getD k Node.zero).parent) && decide ((t.getD k Node.zero).parent < k) := rfl
    have hfre : (∀ u < k, (t.getD u Node.zero).name ≠ (t.getD k Node.zero).name) → fresh t k = true := fun h => by
      rw [fresh, List.all_eq_true]; intro u hu; exact decide_eq_true (h u (by simpa using hu))
    have hfrb : ∀ u < k, (t.getD u Node.zero).name = (t.getD k Node.zero).name → fresh t k = false := fun u hu h => fresh_bad hu h
    have hx0 : k = 0 → (t.getD k Node.zero).parent = -1 := by rintro rfl; exact hroot
    obtain ⟨x, hx⟩ : ∃ x, t.getD k Node.zero = x := ⟨_, rfl⟩
    obtain ⟨p, s⟩ := x
    rw [hx] at hsz hok hpar hx0
    simp only [hx] at hfre hfrb
    simp only at hsz hok hpar hx0
    obtain ⟨f, hf⟩ : ∃ f, fresh t k = f := ⟨_, rfl⟩
    obtain ⟨g, hg⟩ : ∃ g, okPar t k = g := ⟨_, rfl⟩
    obtain ⟨n, hn⟩ : ∃ n, namedB s = n := ⟨_, rfl⟩
    rw [hf] at hok hfre hfrb
    rw [hg] at hpar hok
    rw [hn] at hok
    have e2 : decide ((0 : Int) < (k : Int)) = decide (0 < k) := by congr 1; exact propext ⟨fun h => by omega, fun h => by omega⟩
    have hpb : 0 < k ∧ (p < 0 ∨ (k : Int) ≤ p) → g = false := fun ⟨h1, h2⟩ => by
      rw [hpar, if_neg (by omega)]
      rcases h2 with h2 | h2
      · rw [decide_eq_false (show ¬ 0 ≤ p by omega), Bool.false_and]
      · rw [decide_eq_false (show ¬ p < (k : Int) by omega), Bool.and_false]
    have hpg : ¬ (0 < k ∧ (p < 0 ∨ (k : Int) ≤ p)) → g = true := fun h1 => by
      rw [hpar]
      split
      · rename_i hk0; rw [hx0 hk0]; rfl
      · rw [decide_eq_true (show 0 ≤ p by omega), decide_eq_true (show p < (k : Int) by omega)]; rfl
    simp only [e2, getD_node t k hk', hx, node_def, zv, bv, sv, nv, VZ, BEq.rfl, seval, -Int.reduceNatCast', kAgg, scD, List.all_cons, List.all_nil]
    refine guardB.mk (fun h => ?_) (fun h => ?_) <;> simp only [h, e2, getD_node t k hk', hx, node_def, zv, bv, sv, nv, VZ, BEq.rfl, seval, -Int.reduceNatCast', kAgg, scD, List.all_cons, List.all_nil]
    · have h1 : 0 < k := by simpa using h
      refine ⟨⟨Int.natCast_nonneg k, by omega⟩, ?_⟩
      refine guardB.mk (fun h2 => ?_) (fun h2 => ?_) <;> simp only [h2, e2, getD_node t k hk', hx, node_def, zv, bv, sv, nv, VZ, BEq.rfl, seval, -Int.reduceNatCast', kAgg, scD, List.all_cons, List.all_nil]
      · have h2 : p < 0 := by simpa using h2
        have hg' := hpb ⟨h1, .inl h2⟩
        subst hg'
        simp only [hbad (by rw [hok]; simp), errOf, zv, bv, sv, nv, VZ, BEq.rfl, seval, -Int.reduceNatCast', kAgg, scD, List.all_cons, List.all_nil]
        try rfl
      · have h2 : ¬ p < 0 := by simpa using h2
        refine ⟨⟨Int.natCast_nonneg k, by omega⟩, ?_⟩
        refine guardB.mk (fun h3 => ?_) (fun h3 => ?_) <;> simp only [h3, e2, getD_node t k hk', hx, node_def, zv, bv, sv, nv, VZ, BEq.rfl, seval, -Int.reduceNatCast', kAgg, scD, List.all_cons, List.all_nil]
        · have h3 : (k : Int) ≤ p := by simpa using h3
          have hg' := hpb ⟨h1, .inr h3⟩
          subst hg'
          simp only [hbad (by rw [hok]; simp), errOf, zv, bv, sv, nv, VZ, BEq.rfl, seval, -Int.reduceNatCast', kAgg, scD, List.all_cons, List.all_nil]
          try rfl
        · have h3 : ¬ (k : Int) ≤ p := by simpa using h3
          have hng : ¬ (0 < k ∧ (p < 0 ∨ (k : Int) ≤ p)) := fun h => by omega
          refine ⟨⟨Int.natCast_nonneg k, by omega⟩, ?_⟩
          refine CallX.mk (rname_ok _ hsz) rfl ?_
          simp only [hn, zv, bv, sv, nv, VZ, BEq.rfl, seval, -Int.reduceNatCast', kAgg, scD, List.all_cons, List.all_nil]
          cases n with
          | false =>
            simp only [zv, bv, sv, nv, VZ, BEq.rfl, seval, -Int.reduceNatCast', kAgg, scD, List.all_cons, List.all_nil]
            simp only [hbad (by rw [hok]; simp), errOf, zv, bv, sv, nv, VZ, BEq.rfl, seval, -Int.reduceNatCast', kAgg, scD, List.all_cons, List.all_nil]
            try rfl
          | true =>
            simp only [zv, bv, sv, nv, VZ, BEq.rfl, seval, -Int.reduceNatCast', kAgg, scD, List.all_cons, List.all_nil]
            refine LoopVC.mk (Y := Nat) (fun j => j ≤ k ∧ ∀ u < j, (t.getD u Node.zero).name ≠ s) (fun j => ⟨[(0, .c (nodes t)), (3, nv k), (4, nv j)], []⟩) (fun j => k - j) ⟨0, Enter.id ?_, by omega, fun u hu => absurd hu (by omega)⟩ ?_
            · simp only [zv, bv, sv, nv, VZ, BEq.rfl, seval, -Int.reduceNatCast', kAgg, scD, List.all_cons, List.all_nil]
              try rfl
            rintro j ⟨hj, hne⟩
            simp only [lt_nat, zv, bv, sv, nv, VZ, BEq.rfl, seval, -Int.reduceNatCast', kAgg, scD, List.all_cons, List.all_nil]
            refine guardB.mk (fun h => ?_) (fun h => ?_)
            · have hj' : j < k := by simpa using h
              clear h
              simp only [getD_node t j (by omega), str_beq, e2, getD_node t k hk', hx, node_def, zv, bv, sv, nv, VZ, BEq.rfl, seval, -Int.reduceNatCast', kAgg, scD, List.all_cons, List.all_nil]
              refine ⟨⟨Int.natCast_nonneg j, by omega⟩, ⟨Int.natCast_nonneg k, by omega⟩, ?_⟩
              refine guardB.mk (fun h => ?_) (fun h => ?_) <;> simp only [h, zv, bv, sv, nv, VZ, BEq.rfl, seval, -Int.reduceNatCast', kAgg, scD, List.all_cons, List.all_nil]
              · have h : (t.getD j Node.zero).name = s := by simpa using h
                have hf' : f = false := hfrb j hj' h
                subst hf'
                rw [Bool.and_false, Bool.and_false] at hok
                simp only [hbad hok, errOf, zv, bv, sv, nv, VZ, BEq.rfl, seval, -Int.reduceNatCast', kAgg, scD, List.all_cons, List.all_nil]
                try rfl
              · have h : (t.getD j Node.zero).name ≠ s := by simpa using h
                simp only [wrap_nat (k := j) (by omega), zv, bv, sv, nv, VZ, BEq.rfl, seval, -Int.reduceNatCast', kAgg, scD, List.all_cons, List.all_nil]
                refine ⟨j + 1, Enter.id ?_, ⟨by omega, fun u hu => ?_⟩, by show k - (j + 1) < k - j; omega⟩
                · simp only [zv, bv, sv, nv, VZ, BEq.rfl, seval, -Int.reduceNatCast', kAgg, scD, List.all_cons, List.all_nil]
                · rcases Nat.lt_succ_iff_lt_or_eq.1 hu with h' | h'
                  · exact hne u h'
                  · rw [h']; exact h
            · have hj' : j = k := by
                have : ¬ j < k := by simpa using h
                omega
              subst hj'
              have hf' : f = true := hfre hne
              subst hf'
              simp only [wrap_nat (k := j) (by omega), zv, bv, sv, nv, VZ, BEq.rfl, seval, -Int.reduceNatCast', kAgg, scD, List.all_cons, List.all_nil]
              refine ⟨j + 1, Enter.id ?_, ⟨by omega, hgood (by rw [hok, hpg hng]; rfl)⟩, by show t.length - (j + 1) < t.length - j; omega⟩
              simp only [zv, bv, sv, nv, VZ, BEq.rfl, seval, -Int.reduceNatCast', kAgg, scD, List.all_cons, List.all_nil]
    · have h1 : ¬ 0 < k := by simpa using h
      have hng : ¬ (0 < k ∧ (p < 0 ∨ (k : Int) ≤ p)) := fun h => h1 h.1
      refine ⟨⟨Int.natCast_nonneg k, by omega⟩, ?_⟩
      refine CallX.mk (rname_ok _ hsz) rfl ?_
      simp only [hn, zv, bv, sv, nv, VZ, BEq.rfl, seval, -Int.reduceNatCast', kAgg, scD, List.all_cons, List.all_nil]
      cases n with
      | false =>
        simp only [zv, bv, sv, nv, VZ, BEq.rfl, seval, -Int.reduceNatCast', kAgg, scD, List.all_cons, List.all_nil]
        simp only [hbad (by rw [hok]; simp), errOf, zv, bv, sv, nv, VZ, BEq.rfl, seval, -Int.reduceNatCast', kAgg, scD, List.all_cons, List.all_nil]
        try rfl
      | true =>
        simp only [zv, bv, sv, nv, VZ, BEq.rfl, seval, -Int.reduceNatCast', kAgg, scD, List.all_cons, List.all_nil]
        refine LoopVC.mk (Y := Nat) (fun j => j ≤ k ∧ ∀ u < j, (t.getD u Node.zero).name ≠ s) (fun j => ⟨[(0, .c (nodes t)), (3, nv k), (4, nv j)], []⟩) (fun j => k - j) ⟨0, Enter.id ?_, by omega, fun u hu => absurd hu (by omega)⟩ ?_
        · simp only [zv, bv, sv, nv, VZ, BEq.rfl, seval, -Int.reduceNatCast', kAgg, scD, List.all_cons, List.all_nil]
          try rfl
        rintro j ⟨hj, hne⟩
        simp only [lt_nat, zv, bv, sv, nv, VZ, BEq.rfl, seval, -Int.reduceNatCast', kAgg, scD, List.all_cons, List.all_nil]
        refine guardB.mk (fun h => ?_) (fun h => ?_)
        · have hj' : j < k := by simpa using h
          clear h
          simp only [getD_node t j (by omega), str_beq, e2, getD_node t k hk', hx, node_def, zv, bv, sv, nv, VZ, BEq.rfl, seval, -Int.reduceNatCast', kAgg, scD, List.all_cons, List.all_nil]
          refine ⟨⟨Int.natCast_nonneg j, by omega⟩, ⟨Int.natCast_nonneg k, by omega⟩, ?_⟩
          refine guardB.mk (fun h => ?_) (fun h => ?_) <;> simp only [h, zv, bv, sv, nv, VZ, BEq.rfl, seval, -Int.reduceNatCast', kAgg, scD, List.all_cons, List.all_nil]
          · have h : (t.getD j Node.zero).name = s := by simpa using h
            have hf' : f = false := hfrb j hj' h
            subst hf'
            rw [Bool.and_false, Bool.and_false] at hok
            simp only [hbad hok, errOf, zv, bv, sv, nv, VZ, BEq.rfl, seval, -Int.reduceNatCast', kAgg, scD, List.all_cons, List.all_nil]
            try rfl
          · have h : (t.getD j Node.zero).name ≠ s := by simpa using h
            simp only [wrap_nat (k := j) (by omega), zv, bv, sv, nv, VZ, BEq.rfl, seval, -Int.reduceNatCast', kAgg, scD, List.all_cons, List.all_nil]
            refine ⟨j + 1, Enter.id ?_, ⟨by omega, fun u hu => ?_⟩, by show k - (j + 1) < k - j; omega⟩
            · simp only [zv, bv, sv, nv, VZ, BEq.rfl, seval, -Int.reduceNatCast', kAgg, scD, List.all_cons, List.all_nil]
            · rcases Nat.lt_succ_iff_lt_or_eq.1 hu with h' | h'
              · exact hne u h'
              · rw [h']; exact h
        · have hj' : j = k := by
            have : ¬ j < k := by simpa using h
            omega
          subst hj'
          have hf' : f = true := hfre hne
          subst hf'
          simp only [wrap_nat (k := j) (by omega), zv, bv, sv, nv, VZ, BEq.rfl, seval, -Int.reduceNatCast', kAgg, scD, List.all_cons, List.all_nil]
          refine ⟨j + 1, Enter.id ?_, ⟨by omega, hgood (by rw [hok, hpg hng]; rfl)⟩, by show t.length - (j + 1) < t.length - j; omega⟩
          simp only [zv, bv, sv, nv, VZ, BEq.rfl, seval, -Int.reduceNatCast', kAgg, scD, List.all_cons, List.all_nil]
  · have hk' : k = t.length := by
      have : ¬ k < t.length := by simpa using h
      omega
    subst hk'
    simp only [okTree, hpre, decide_eq_true h0, decide_eq_true h63, errOf, zv, bv, sv, nv, VZ, BEq.rfl, seval, -Int.reduceNatCast', kAgg, scD, List.all_cons, List.all_nil]
    try rfl

end Go.Cp
end

section
set_option linter.unusedVariables false
set_option linter.unusedSimpArgs false
set_option maxHeartbeats 4000000
set_option maxRecDepth 10000
namespace Go.Cp
open Go Go.Proofs Go.Vx

def parOf (t : List Node) (v : Nat) : Int := (t.getD v Node.zero).parent
/-- the children of v among the first k nodes -/
def kidsTo (t : List Node) (v : Int) (k : Nat) : List Int := ((List.range k).filter fun u => decide (parOf t u = v)).map fun (u : Nat) => (u : Int)
abbrev kids (t : List Node) (v : Int) : List Int := kidsTo t v t.length
def kidsAt (t : List Node) (k : Nat) : List (List Int) := (List.range t.length).map fun v => kidsTo t (v : Nat) k
def kidsAll (t : List Node) : List (List Int) := kidsAt t t.length
def leavesTo (t : List Node) (k : Nat) : List Int := ((List.range k).filter fun (v : Nat) => decide (kids t v = [])).map fun (u : Nat) => (u : Int)
abbrev leavesOf (t : List Node) : List Int := leavesTo t t.length

theorem kidsTo_succ (t : List Node) (v : Int) (k : Nat) : kidsTo t v (k + 1) = if parOf t k = v then kidsTo t v k ++ [(k : Int)] else kidsTo t v k := by
  rw [kidsTo, List.range_succ, List.filter_append, List.map_append]
  by_cases h : parOf t k = v
  · rw [if_pos h]; simp [h, kidsTo]
  · rw [if_neg h]; simp [h, kidsTo]
theorem kidsTo_len (t : List Node) (v : Int) (k : Nat) : (kidsTo t v k).length ≤ k := by
  rw [kidsTo, List.length_map]
  exact Nat.le_trans (List.length_filter_le _ _) (by simp)
theorem leavesTo_succ (t : List Node) (k : Nat) : leavesTo t (k + 1) = if kids t k = [] then leavesTo t k ++ [(k : Int)] else leavesTo t k := by
  rw [leavesTo, List.range_succ, List.filter_append, List.map_append]
  by_cases h : kids t k = []
  · rw [if_pos h]; simp [h, leavesTo]
  · rw [if_neg h]; simp [h, leavesTo]
theorem leavesTo_len (t : List Node) (k : Nat) : (leavesTo t k).length ≤ k := by
  rw [leavesTo, List.length_map]
  exact Nat.le_trans (List.length_filter_le _ _) (by simp)
theorem leaves_len (t : List Node) : (leavesOf t).length ≤ t.length := leavesTo_len t _
theorem kidsAt_len (t : List Node) (k : Nat) : (kidsAt t k).length = t.length := by simp [kidsAt]
theorem getD_kidsAt {t : List Node} {k v : Nat} (h : v < t.length) : (kidsAt t k).getD v [] = kidsTo t (v : Nat) k := by
  simp [kidsAt, List.getD, List.getElem?_map, List.getElem?_range, h]
theorem kidsAt_succ {t : List Node} {k p : Nat} (hp : parOf t k = (p : Nat)) (h : p < t.length) : kidsAt t (k + 1) = (kidsAt t k).set p (kidsTo t (p : Nat) k ++ [(k : Int)]) := by
  refine List.ext_getElem (by simp [kidsAt]) fun i h1 h2 => ?_
  simp only [kidsAt, List.getElem_map, List.getElem_range, List.getElem_set, kidsTo_succ, hp]
  by_cases hi : p = i
  · subst hi; simp
  · rw [if_neg hi, if_neg (by omega)]
theorem kidsAt_zero (t : List Node) : kidsAt t 0 = List.replicate t.length [] := by
  refine List.ext_getElem (by simp [kidsAt]) fun i h1 h2 => ?_
  simp [kidsAt, kidsTo]
theorem kidsAt_same {t : List Node} {k : Nat} (hp : parOf t k < 0) : kidsAt t (k + 1) = kidsAt t k := by
  refine List.ext_getElem (by simp [kidsAt]) fun i h1 h2 => ?_
  simp only [kidsAt, List.getElem_map, List.getElem_range, kidsTo_succ]
  rw [if_neg (by omega)]
theorem rowsD_num (m : List (List Int)) : rowsD (m.map (List.map num)) = m.map rowS := by
  rw [rowsD, List.map_map]; rfl
theorem getD_rows (m : List (List Int)) (k : Nat) : (m.map (List.map num)).getD k [] = (m.getD k []).map num := by
  simp only [List.getD, List.getElem?_map]
  cases m[k]? <;> rfl
theorem set_rows (m : List (List Int)) (k : Nat) (r : List Int) : (m.map (List.map num)).set k (r.map num) = (m.set k r).map (List.map num) := by
  rw [List.map_set]
theorem okTree_node {t : List Node} (h : okTree t = true) {k : Nat} (hk : k < t.length) : okNode t k = true := by
  simp only [okTree, Bool.and_eq_true, List.all_eq_true, decide_eq_true_eq] at h
  exact h.2.2 k (by simpa using hk)
theorem okTree_par {t : List Node} (h : okTree t = true) {k : Nat} (hk : k < t.length) (h0 : 0 < k) : 0 ≤ parOf t k ∧ parOf t k < k := by
  have h := okTree_node h hk
  simp only [okNode, okPar, Bool.and_eq_true, if_neg (show k ≠ 0 by omega), decide_eq_true_eq] at h
  exact h.1
theorem okTree_root {t : List Node} (h : okTree t = true) : parOf t 0 = -1 := by
  have h := okTree_node h (okTree_len h).1
  simp only [okNode, okPar, Bool.and_eq_true, if_pos, decide_eq_true_eq] at h
  exact h.1

theorem families_ok (t : List Node) (ht : okTree t = true) : Ok Try.prog E 50 [.c (nodes t)] (.c (rowsS (kidsAll t))) := by
  have hsel : t.length ≤ 63 := (okTree_len ht).2
  refine ok_of_vc (L := [(6, [(1, 9), (2, 9), (4, 9), (5, 9), (6, 9), (7, 9), (1, 10), (2, 10)])]) (ts := [2]) envOK mixed Try.func50 rfl (by kernel_rfl) rfl (by kernel_rfl) rfl fun hl => ?_
  simp only [Try.f50, nums, rowsS, nodes, zv, bv, sv, nv, VZ, BEq.rfl, seval, -Int.reduceNatCast', kAgg, scD, List.all_cons, List.all_nil]
  refine ⟨by omega, ?_⟩
  refine LoopVC.mk (Y := Nat) (fun k => k ≤ t.length) (fun k => ⟨[(3, .osl 8 0), (9, .c (nodes t)), (10, nv t.length), (11, nv k)], [(8, .nest 35 0 0 none ((kidsAt t k).map (List.map num)))]⟩) (fun k => t.length - k) ⟨0, Enter.mk [] [] [] ?_, by omega⟩ ?_
  · have e0 : List.replicate t.length ([] : List (List D)) = (kidsAt t 0).map (List.map num) := by rw [kidsAt_zero]; simp
    simp only [e0, nums, rowsS, nodes, zv, bv, sv, nv, VZ, BEq.rfl, seval, -Int.reduceNatCast', kAgg, scD, List.all_cons, List.all_nil]
    try rfl
  intro k hk
  simp only [lt_nat, nums, rowsS, nodes, zv, bv, sv, nv, VZ, BEq.rfl, seval, -Int.reduceNatCast', kAgg, scD, List.all_cons, List.all_nil]
  refine guardB.mk (fun h => ?_) (fun h => ?_)
  · have hk' : k < t.length := by simpa using h
    clear h
    have hroot := okTree_root ht
    have hpar : 0 < k → _ := okTree_par ht hk'
    have hx : (t.getD k Node.zero).parent = parOf t k := rfl
    have e2 : decide ((0 : Int) < (k : Int)) = decide (0 < k) := by congr 1; exact propext ⟨fun h => by omega, fun h => by omega⟩
    simp only [e2, getD_node t k hk', node_def, hx, nums, rowsS, nodes, zv, bv, sv, nv, VZ, BEq.rfl, seval, -Int.reduceNatCast', kAgg, scD, List.all_cons, List.all_nil]
    refine ⟨⟨Int.natCast_nonneg k, hk'⟩, ?_⟩
    refine guardB.mk (fun h => ?_) (fun h => ?_) <;> simp only [h, e2, getD_node t k hk', node_def, hx, nums, rowsS, nodes, zv, bv, sv, nv, VZ, BEq.rfl, seval, -Int.reduceNatCast', kAgg, scD, List.all_cons, List.all_nil]
    · have h : 0 < k := by simpa using h
      obtain ⟨hp0, hpk⟩ := hpar h
      obtain ⟨p, hp⟩ : ∃ p : Nat, parOf t k = (p : Nat) := ⟨(parOf t k).toNat, by omega⟩
      have hpl : p < t.length := by omega
      have hlk := kidsTo_len t (p : Nat) k
      have hset := kidsAt_succ hp hpl
      have hgd := getD_kidsAt (k := k) hpl
      have hkl := kidsAt_len t k
      have hrow : ((kidsAt t k).map (List.map num)).set p (((kidsAt t k).map (List.map num)).getD p [] ++ [[.sc (.int .i64 k)]]) = (kidsAt t (k + 1)).map (List.map num) := by
        rw [getD_rows, hgd, hset, ← set_rows, List.map_append]; rfl
      have hln : (((kidsAt t k).map (List.map num)).getD p []).length = (kidsTo t (p : Nat) k).length := by rw [getD_rows, hgd, List.length_map]
      have hkl' := kidsAt_len t (k + 1)
      simp only [hp, hrow, hln, wrap_nat (k := k) (by omega), nums, rowsS, nodes, zv, bv, sv, nv, VZ, BEq.rfl, seval, -Int.reduceNatCast', kAgg, scD, List.all_cons, List.all_nil]
      refine ⟨Int.natCast_nonneg p, by omega, by omega, ⟨by omega, allLen_num [(k : Int)]⟩, Int.natCast_nonneg p, by omega, k + 1, Enter.mk [] [] [] ?_, by omega, by show t.length - (k + 1) < t.length - k; omega⟩
      simp only [nums, rowsS, nodes, zv, bv, sv, nv, VZ, BEq.rfl, seval, -Int.reduceNatCast', kAgg, scD, List.all_cons, List.all_nil]
    · have h : k = 0 := by have : ¬ 0 < k := by simpa using h
                           omega
      have hs := kidsAt_same (t := t) (k := k) (by rw [h, hroot]; decide)
      simp only [wrap_nat (k := k) (by omega), ← hs, nums, rowsS, nodes, zv, bv, sv, nv, VZ, BEq.rfl, seval, -Int.reduceNatCast', kAgg, scD, List.all_cons, List.all_nil]
      refine ⟨k + 1, Enter.mk [] [] [] ?_, by omega, by show t.length - (k + 1) < t.length - k; omega⟩
      simp only [nums, rowsS, nodes, zv, bv, sv, nv, VZ, BEq.rfl, seval, -Int.reduceNatCast', kAgg, scD, List.all_cons, List.all_nil]
  · have hk' : k = t.length := by
      have : ¬ k < t.length := by simpa using h
      omega
    subst hk'
    simp only [rowsD_num, nums, rowsS, nodes, zv, bv, sv, nv, VZ, BEq.rfl, seval, -Int.reduceNatCast', kAgg, scD, List.all_cons, List.all_nil]
    try rfl

theorem leavesTo_nums (t : List Node) (k : Nat) : (leavesTo t (k + 1)).map num = if kids t k = [] then (leavesTo t k).map num ++ [num k] else (leavesTo t k).map num := by
  rw [leavesTo_succ]; split <;> simp

theorem leaves_ok (t : List Node) (ht : okTree t = true) : Ok Try.prog E 59 [.c (nodes t)] (.fr 3 ((leavesOf t).map num)) := by
  have hsel : t.length ≤ 63 := (okTree_len ht).2
  refine ok_of_vc (L := []) (ts := [2]) envOK mixed Try.func59 rfl (by kernel_rfl) rfl (by kernel_rfl) rfl fun hl => ?_
  simp only [Try.f59, nums, rowsS, nodes, zv, bv, sv, nv, VZ, BEq.rfl, seval, -Int.reduceNatCast', kAgg, scD, List.all_cons, List.all_nil]
  refine CallX.mk (families_ok t ht) rfl ?_
  have hka : (kidsAll t).length = t.length := kidsAt_len t _
  simp only [hka, nums, rowsS, nodes, zv, bv, sv, nv, VZ, BEq.rfl, seval, -Int.reduceNatCast', kAgg, scD, List.all_cons, List.all_nil]
  refine LoopVC.mk (Y := Nat) (fun k => k ≤ t.length) (fun k => ⟨[(3, .osl 1000 0), (7, .c (rowsS (kidsAll t))), (8, nv t.length), (9, nv k)], [(1000, .arr 3 0 ((leavesTo t k).map num))]⟩) (fun k => t.length - k) ⟨0, Enter.mk [(3, (1000, 3))] [] [] ?_, by omega⟩ ?_
  · simp only [nums, rowsS, nodes, zv, bv, sv, nv, VZ, BEq.rfl, seval, -Int.reduceNatCast', kAgg, scD, List.all_cons, List.all_nil]
    exact ⟨rfl, ⟨rfl, rfl⟩, rfl⟩
  intro k hk
  simp only [lt_nat, nums, rowsS, nodes, zv, bv, sv, nv, VZ, BEq.rfl, seval, -Int.reduceNatCast', kAgg, scD, List.all_cons, List.all_nil]
  refine guardB.mk (fun h => ?_) (fun h => ?_)
  · have hk' : k < t.length := by simpa using h
    clear h
    have hg : (kidsAll t).getD k [] = kids t k := getD_kidsAt hk'
    have hlt := leavesTo_len t k
    have hnum := leavesTo_nums t k
    have e2 : (((kids t k).length : Int) == 0) = decide (kids t k = []) := by rw [int_beq]; congr 1; exact propext ⟨fun h => List.length_eq_zero_iff.1 (by omega), fun h => by rw [h]; rfl⟩
    simp only [getD_rowS _ k (show k < (kidsAll t).length by omega), hg, rowS_def, e2, nums, rowsS, nodes, zv, bv, sv, nv, VZ, BEq.rfl, seval, -Int.reduceNatCast', kAgg, scD, List.all_cons, List.all_nil]
    refine ⟨⟨Int.natCast_nonneg k, by omega⟩, ?_⟩
    refine guardB.mk (fun h => ?_) (fun h => ?_) <;> simp only [h, wrap_nat (k := k) (by omega), nums, rowsS, nodes, zv, bv, sv, nv, VZ, BEq.rfl, seval, -Int.reduceNatCast', kAgg, scD, List.all_cons, List.all_nil]
    · have h : kids t k = [] := by simpa using h
      rw [if_pos h] at hnum
      refine ⟨⟨by omega, allLen_num [(k : Int)]⟩, k + 1, Enter.mk [] [] [] ?_, by omega, by show t.length - (k + 1) < t.length - k; omega⟩
      simp only [hnum, num_def, nums, rowsS, nodes, zv, bv, sv, nv, VZ, BEq.rfl, seval, -Int.reduceNatCast', kAgg, scD, List.all_cons, List.all_nil]
    · have h : ¬ kids t k = [] := by simpa using h
      rw [if_neg h] at hnum
      refine ⟨k + 1, Enter.mk [] [] [] ?_, by omega, by show t.length - (k + 1) < t.length - k; omega⟩
      simp only [hnum, nums, rowsS, nodes, zv, bv, sv, nv, VZ, BEq.rfl, seval, -Int.reduceNatCast', kAgg, scD, List.all_cons, List.all_nil]
  · have hk' : k = t.length := by
      have : ¬ k < t.length := by simpa using h
      omega
    subst hk'
    simp only [nums, rowsS, nodes, zv, bv, sv, nv, VZ, BEq.rfl, seval, -Int.reduceNatCast', kAgg, scD, List.all_cons, List.all_nil]

theorem errOf_true : errOf true = 0 := rfl
theorem errOf_false : errOf false = 16 := rfl
def leavesR (t : List Node) : List Int := if okTree t then leavesOf t else []
theorem leavesR_true {t : List Node} (h : okTree t = true) : leavesR t = leavesOf t := if_pos h
theorem leavesR_false {t : List Node} (h : okTree t = false) : leavesR t = [] := by rw [leavesR, h]; rfl

theorem Leaves_ok (t : List Node) (hs : Small t) : Ok Try.prog E 22 [.c (nodes t)] (.tp [.c (nums (leavesR t)), zv (errOf (okTree t))]) := by
  refine ok_of_vc (L := []) (ts := [2, 3]) envOK mixed Try.func22 rfl (by kernel_rfl) rfl (by kernel_rfl) rfl fun hl => ?_
  simp only [Try.f22, nums, rowsS, nodes, zv, bv, sv, nv, VZ, BEq.rfl, seval, -Int.reduceNatCast', kAgg, scD, List.all_cons, List.all_nil]
  refine CallX.mk (check_ok t hs) rfl ?_
  cases h : okTree t with
  | false => simp only [errOf_false, leavesR_false h, nums, rowsS, nodes, zv, bv, sv, nv, VZ, BEq.rfl, seval, -Int.reduceNatCast', kAgg, scD, List.all_cons, List.all_nil]
  | true =>
    simp only [errOf_true, leavesR_true h, nums, rowsS, nodes, zv, bv, sv, nv, VZ, BEq.rfl, seval, -Int.reduceNatCast', kAgg, scD, List.all_cons, List.all_nil]
    refine CallX.mk (Ok.val (leaves_ok t h)) rfl ?_
    simp only [nums, rowsS, nodes, zv, bv, sv, nv, VZ, BEq.rfl, seval, -Int.reduceNatCast', kAgg, scD, List.all_cons, List.all_nil]

theorem kidsTo_nums (t : List Node) (v : Int) (k : Nat) : (kidsTo t v (k + 1)).map num = if parOf t k = v then (kidsTo t v k).map num ++ [num k] else (kidsTo t v k).map num := by
  rw [kidsTo_succ]; split <;> simp

theorem children_ok (t : List Node) (v : Int) (hn : t.length ≤ 63) : Ok Try.prog E 65 [.c (nodes t), zv v] (.fr 3 ((kids t v).map num)) := by
  refine ok_of_vc (L := []) (ts := [4]) envOK mixed Try.func65 rfl (by kernel_rfl) rfl (by kernel_rfl) rfl fun hl => ?_
  simp only [Try.f65, nums, rowsS, nodes, zv, bv, sv, nv, VZ, BEq.rfl, seval, -Int.reduceNatCast', kAgg, scD, List.all_cons, List.all_nil]
  refine LoopVC.mk (Y := Nat) (fun k => k ≤ t.length) (fun k => ⟨[(0, .c (nodes t)), (1, zv v), (5, .osl 1000 0), (6, nv k)], [(1000, .arr 3 0 ((kidsTo t v k).map num))]⟩) (fun k => t.length - k) ⟨0, Enter.mk [(5, (1000, 3))] [] [] ?_, by omega⟩ ?_
  · simp only [nums, rowsS, nodes, zv, bv, sv, nv, VZ, BEq.rfl, seval, -Int.reduceNatCast', kAgg, scD, List.all_cons, List.all_nil]
    exact ⟨rfl, ⟨rfl, rfl⟩, rfl⟩
  intro k hk
  simp only [lt_nat, nums, rowsS, nodes, zv, bv, sv, nv, VZ, BEq.rfl, seval, -Int.reduceNatCast', kAgg, scD, List.all_cons, List.all_nil]
  refine guardB.mk (fun h => ?_) (fun h => ?_)
  · have hk' : k < t.length := by simpa using h
    clear h
    have hlt := kidsTo_len t v k
    have hnum := kidsTo_nums t v k
    have hx : (t.getD k Node.zero).parent = parOf t k := rfl
    simp only [getD_node t k hk', node_def, hx, int_beq, nums, rowsS, nodes, zv, bv, sv, nv, VZ, BEq.rfl, seval, -Int.reduceNatCast', kAgg, scD, List.all_cons, List.all_nil]
    refine ⟨⟨Int.natCast_nonneg k, by omega⟩, ?_⟩
    refine guardB.mk (fun h => ?_) (fun h => ?_) <;> simp only [h, wrap_nat (k := k) (by omega), nums, rowsS, nodes, zv, bv, sv, nv, VZ, BEq.rfl, seval, -Int.reduceNatCast', kAgg, scD, List.all_cons, List.all_nil]
    · have h : parOf t k = v := by simpa using h
      rw [if_pos h] at hnum
      refine ⟨⟨by omega, allLen_num [(k : Int)]⟩, k + 1, Enter.mk [] [] [] ?_, by omega, by show t.length - (k + 1) < t.length - k; omega⟩
      simp only [hnum, num_def, nums, rowsS, nodes, zv, bv, sv, nv, VZ, BEq.rfl, seval, -Int.reduceNatCast', kAgg, scD, List.all_cons, List.all_nil]
    · have h : ¬ parOf t k = v := by simpa using h
      rw [if_neg h] at hnum
      refine ⟨k + 1, Enter.mk [] [] [] ?_, by omega, by show t.length - (k + 1) < t.length - k; omega⟩
      simp only [hnum, nums, rowsS, nodes, zv, bv, sv, nv, VZ, BEq.rfl, seval, -Int.reduceNatCast', kAgg, scD, List.all_cons, List.all_nil]
  · have hk' : k = t.length := by
      have : ¬ k < t.length := by simpa using h
      omega
    subst hk'
    simp only [nums, rowsS, nodes, zv, bv, sv, nv, VZ, BEq.rfl, seval, -Int.reduceNatCast', kAgg, scD, List.all_cons, List.all_nil]

theorem rLeaves_ok (t : List Node) (hs : Small t) : Ok Try.prog E 36 [.c (nodes t)] (.tp [.c (nums (leavesR t)), zv (errOf (okTree t))]) := by
  refine ok_of_vc (L := []) (ts := [2, 3]) envOK mixed Try.func36 rfl (by kernel_rfl) rfl (by kernel_rfl) rfl fun hl => ?_
  simp only [Try.f36, nums, rowsS, nodes, zv, bv, sv, nv, VZ, BEq.rfl, seval, -Int.reduceNatCast', kAgg, scD, List.all_cons, List.all_nil]
  refine CallX.mk (rcheck_ok t hs) rfl ?_
  cases ht : okTree t with
  | false => simp only [errOf_false, leavesR_false ht, nums, rowsS, nodes, zv, bv, sv, nv, VZ, BEq.rfl, seval, -Int.reduceNatCast', kAgg, scD, List.all_cons, List.all_nil]
  | true =>
  have hsel : t.length ≤ 63 := (okTree_len ht).2
  simp only [errOf_true, leavesR_true ht, nums, rowsS, nodes, zv, bv, sv, nv, VZ, BEq.rfl, seval, -Int.reduceNatCast', kAgg, scD, List.all_cons, List.all_nil]
  refine LoopVC.mk (Y := Nat) (fun k => k ≤ t.length) (fun k => ⟨[(0, .c (nodes t)), (5, .osl 1000 0), (6, nv k)], [(1000, .arr 3 0 ((leavesTo t k).map num))]⟩) (fun k => t.length - k) ⟨0, Enter.mk [(5, (1000, 3))] [] [] ?_, by omega⟩ ?_
  · simp only [nums, rowsS, nodes, zv, bv, sv, nv, VZ, BEq.rfl, seval, -Int.reduceNatCast', kAgg, scD, List.all_cons, List.all_nil]
    exact ⟨rfl, ⟨rfl, rfl⟩, rfl⟩
  intro k hk
  simp only [lt_nat, nums, rowsS, nodes, zv, bv, sv, nv, VZ, BEq.rfl, seval, -Int.reduceNatCast', kAgg, scD, List.all_cons, List.all_nil]
  refine guardB.mk (fun h => ?_) (fun h => ?_)
  · have hk' : k < t.length := by simpa using h
    clear h
    have hlt := leavesTo_len t k
    have hnum := leavesTo_nums t k
    have e2 : (((kids t k).length : Int) == 0) = decide (kids t k = []) := by rw [int_beq]; congr 1; exact propext ⟨fun h => List.length_eq_zero_iff.1 (by omega), fun h => by rw [h]; rfl⟩
    simp only [nums, rowsS, nodes, zv, bv, sv, nv, VZ, BEq.rfl, seval, -Int.reduceNatCast', kAgg, scD, List.all_cons, List.all_nil]
    refine CallX.mk (Ok.val (children_ok t (k : Nat) hsel)) rfl ?_
    simp only [e2, nums, rowsS, nodes, zv, bv, sv, nv, VZ, BEq.rfl, seval, -Int.reduceNatCast', kAgg, scD, List.all_cons, List.all_nil]
    refine guardB.mk (fun h => ?_) (fun h => ?_) <;> simp only [h, wrap_nat (k := k) (by omega), nums, rowsS, nodes, zv, bv, sv, nv, VZ, BEq.rfl, seval, -Int.reduceNatCast', kAgg, scD, List.all_cons, List.all_nil]
    · have h : kids t k = [] := by simpa using h
      rw [if_pos h] at hnum
      refine ⟨⟨by omega, allLen_num [(k : Int)]⟩, k + 1, Enter.mk [] [] [] ?_, by omega, by show t.length - (k + 1) < t.length - k; omega⟩
      simp only [hnum, num_def, nums, rowsS, nodes, zv, bv, sv, nv, VZ, BEq.rfl, seval, -Int.reduceNatCast', kAgg, scD, List.all_cons, List.all_nil]
    · have h : ¬ kids t k = [] := by simpa using h
      rw [if_neg h] at hnum
      refine ⟨k + 1, Enter.mk [] [] [] ?_, by omega, by show t.length - (k + 1) < t.length - k; omega⟩
      simp only [hnum, nums, rowsS, nodes, zv, bv, sv, nv, VZ, BEq.rfl, seval, -Int.reduceNatCast', kAgg, scD, List.all_cons, List.all_nil]
  · have hk' : k = t.length := by
      have : ¬ k < t.length := by simpa using h
      omega
    subst hk'
    simp only [nums, rowsS, nodes, zv, bv, sv, nv, VZ, BEq.rfl, seval, -Int.reduceNatCast', kAgg, scD, List.all_cons, List.all_nil]

end Go.Cp
end

section
set_option linter.unusedVariables false
set_option linter.unusedSimpArgs false
set_option maxHeartbeats 4000000
set_option maxRecDepth 10000
namespace Go.Cp
open Go Go.Proofs Go.Vx

def parN (t : List Node) (v : Nat) : Nat := (parOf t v).toNat
theorem okTree_parN {t : List Node} (h : okTree t = true) {v : Nat} (hv : v < t.length) (h0 : 0 < v) : parN t v < v ∧ parOf t v = (parN t v : Int) := by
  have := okTree_par h hv h0
  rw [parN]; omega

/-- the way up, at most k nodes -/
def upsL (t : List Node) : Nat → Nat → List Nat
  | 0, _ => []
  | k + 1, v => v :: if v = 0 then [] else upsL t k (parN t v)
def ups (t : List Node) (v : Nat) : List Nat := upsL t (v + 1) v
theorem upsL_fuel {t : List Node} (h : okTree t = true) : ∀ n v k, v ≤ n → v < k → v < t.length → upsL t k v = ups t v
  | n, v, 0, _, h2, _ => by omega
  | n, v, k + 1, h1, h2, h3 => by
    rw [ups, upsL, upsL]
    by_cases h0 : v = 0
    · rw [if_pos h0, if_pos h0]
    · rw [if_neg h0, if_neg h0]
      have hp := (okTree_parN h h3 (by omega)).1
      cases n with
      | zero => omega
      | succ n => rw [upsL_fuel h n (parN t v) k (by omega) (by omega) (by omega), upsL_fuel h n (parN t v) v (by omega) (by omega) (by omega)]
theorem ups_eq {t : List Node} (h : okTree t = true) {v : Nat} (hv : v < t.length) : ups t v = v :: if v = 0 then [] else ups t (parN t v) := by
  rw [ups, upsL]
  by_cases h0 : v = 0
  · rw [if_pos h0, if_pos h0]
  · rw [if_neg h0, if_neg h0]
    have hp := (okTree_parN h hv (by omega)).1
    rw [upsL_fuel h v (parN t v) v (by omega) (by omega) (by omega)]
structure UpSpec (t : List Node) (v : Nat) (L : List Nat) : Prop where
  pos : 0 < L.length
  head : L.getD 0 0 = v
  len : L.length ≤ v + 1
  lt : ∀ k, k < L.length → L.getD k 0 < t.length
  par : ∀ k, k < L.length → parOf t (L.getD k 0) = if k + 1 < L.length then ((L.getD (k + 1) 0 : Nat) : Int) else -1
theorem ups_spec {t : List Node} (h : okTree t = true) : ∀ n v, v ≤ n → v < t.length → UpSpec t v (ups t v)
  | n, v, h1, h2 => by
    rw [ups_eq h h2]
    by_cases h0 : v = 0
    · rw [if_pos h0]
      refine ⟨by simp, rfl, by simp, fun k hk => ?_, fun k hk => ?_⟩
      · have : k = 0 := by simpa using hk
        subst this; exact h2
      · have : k = 0 := by simpa using hk
        subst this
        rw [if_neg (by simp)]
        show parOf t v = -1
        rw [h0]; exact okTree_root h
    · rw [if_neg h0]
      obtain ⟨hp, hpe⟩ := okTree_parN h h2 (by omega)
      cases n with
      | zero => omega
      | succ n =>
        have ih := ups_spec h n (parN t v) (by omega) (by omega)
        have hl := ih.len
        refine ⟨by simp, rfl, by simp; omega, fun k hk => ?_, fun k hk => ?_⟩
        · cases k with
          | zero => exact h2
          | succ k => exact ih.lt k (by simpa using hk)
        · cases k with
          | zero =>
            have := ih.pos
            rw [if_pos (by simp; omega)]
            show parOf t v = ((ups t (parN t v)).getD 0 0 : Nat)
            rw [ih.head]; exact hpe
          | succ k =>
            have := ih.par k (by simpa using hk)
            show parOf t ((ups t (parN t v)).getD k 0) = _
            rw [this]
            simp only [List.length_cons, Nat.add_lt_add_iff_right]
            try rfl
theorem ups_ok {t : List Node} (h : okTree t = true) {v : Nat} (hv : v < t.length) : UpSpec t v (ups t v) := ups_spec h v v (Nat.le_refl _) hv

/-! check -/
def inB (t : List Node) (v : Int) : Bool := decide (0 ≤ v) && decide (v < t.length)
def chkE (t : List Node) (vs : List Int) : Int := if okTree t = true then (if vs.all (inB t) = true then 0 else 3) else 16
theorem chkE_zero {t : List Node} {vs : List Int} (h : chkE t vs = 0) : okTree t = true ∧ vs.all (inB t) = true := by
  unfold chkE at h
  split at h
  · split at h
    · exact ⟨by assumption, by assumption⟩
    · omega
  · omega
theorem all_take_succ {α : Type} {l : List α} {k : Nat} (z : α) (h : k < l.length) (p : α → Bool) : (l.take (k + 1)).all p = ((l.take k).all p && p (l.getD k z)) := by
  rw [List.take_add_one, List.all_append]
  simp [List.getElem?_eq_getElem h, List.getD]
theorem all_false_at {α : Type} {l : List α} {k : Nat} (z : α) (h : k < l.length) {p : α → Bool} (hp : p (l.getD k z) = false) : l.all p = false := by
  rw [List.all_eq_false]
  refine ⟨l[k], List.getElem_mem h, ?_⟩
  simpa [List.getD, List.getElem?_eq_getElem h] using hp

theorem chk_ok (t : List Node) (vs : List Int) (hs : Small t) (hvs : vs.length ≤ 1000) : Ok Try.prog E 55 [.c (nodes t), .c (nums vs)] (zv (chkE t vs)) := by
  refine ok_of_vc (L := []) (ts := [4]) envOK mixed Try.func55 rfl (by kernel_rfl) rfl (by kernel_rfl) rfl fun hl => ?_
  have hlen := len_of (hl _ (by simp : AV.c (nodes t) ∈ _))
  rw [List.length_map] at hlen
  simp only [Try.f55, nums, rowsS, nodes, zv, nv, bv, sv, VZ, BEq.rfl, seval, -Int.reduceNatCast', kAgg, scD, List.all_cons, List.all_nil]
  refine CallX.mk (check_ok t hs) rfl ?_
  obtain ⟨b, hb⟩ : ∃ b, okTree t = b := ⟨_, rfl⟩
  cases b with
  | false =>
    simp only [hb, errOf, chkE, nums, rowsS, nodes, zv, nv, bv, sv, VZ, BEq.rfl, seval, -Int.reduceNatCast', kAgg, scD, List.all_cons, List.all_nil]
    try simp only [Bool.false_eq_true, if_false, nums, rowsS, nodes, zv, nv, bv, sv, VZ, BEq.rfl, seval, -Int.reduceNatCast', kAgg, scD, List.all_cons, List.all_nil]
  | true =>
    simp only [hb, errOf, if_true, nums, rowsS, nodes, zv, nv, bv, sv, VZ, BEq.rfl, seval, -Int.reduceNatCast', kAgg, scD, List.all_cons, List.all_nil]
    refine LoopVC.mk (Y := Nat) (fun k => k ≤ vs.length ∧ (vs.take k).all (inB t) = true) (fun k => ⟨[(0, .c (nodes t)), (13, .c (nums vs)), (14, nv vs.length), (15, nv k)], []⟩) (fun k => vs.length - k) ⟨0, Enter.id ?_, by omega, rfl⟩ ?_
    · simp only [nums, rowsS, nodes, zv, nv, bv, sv, VZ, BEq.rfl, seval, -Int.reduceNatCast', kAgg, scD, List.all_cons, List.all_nil]
      try rfl
    rintro k ⟨hk, hpre⟩
    simp only [lt_nat, nums, rowsS, nodes, zv, nv, bv, sv, VZ, BEq.rfl, seval, -Int.reduceNatCast', kAgg, scD, List.all_cons, List.all_nil]
    refine guardB.mk (fun h => ?_) (fun h => ?_)
    · have hk' : k < vs.length := by simpa using h
      clear h
      have hts := all_take_succ 0 hk' (inB t)
      rw [hpre, Bool.true_and] at hts
      have hbad := all_false_at (p := inB t) 0 hk'
      have hib : inB t (vs.getD k 0) = (decide (0 ≤ vs.getD k 0) && decide (vs.getD k 0 < t.length)) := rfl
      obtain ⟨x, hx⟩ : ∃ x, vs.getD k 0 = x := ⟨_, rfl⟩
      rw [hx] at hts hbad hib
      have hch : inB t x = false → chkE t vs = 3 := fun e => by rw [chkE, if_pos hb, hbad e]; rfl
      simp only [getD_num vs k hk', hx, num_def, nums, rowsS, nodes, zv, nv, bv, sv, VZ, BEq.rfl, seval, -Int.reduceNatCast', kAgg, scD, List.all_cons, List.all_nil]
      refine ⟨⟨Int.natCast_nonneg k, hk'⟩, ?_⟩
      refine guardB.mk (fun h => ?_) (fun h => ?_) <;> simp only [h, nums, rowsS, nodes, zv, nv, bv, sv, VZ, BEq.rfl, seval, -Int.reduceNatCast', kAgg, scD, List.all_cons, List.all_nil]
      · have h : x < 0 := by simpa using h
        simp only [hch (by rw [hib, decide_eq_false (by omega), Bool.false_and]), nums, rowsS, nodes, zv, nv, bv, sv, VZ, BEq.rfl, seval, -Int.reduceNatCast', kAgg, scD, List.all_cons, List.all_nil]
      · have h : ¬ x < 0 := by simpa using h
        refine guardB.mk (fun h2 => ?_) (fun h2 => ?_) <;> simp only [h2, nums, rowsS, nodes, zv, nv, bv, sv, VZ, BEq.rfl, seval, -Int.reduceNatCast', kAgg, scD, List.all_cons, List.all_nil]
        · have h2 : (t.length : Int) ≤ x := by simpa using h2
          simp only [hch (by rw [hib, decide_eq_false (show ¬ x < (t.length : Int) by omega), Bool.and_false]), nums, rowsS, nodes, zv, nv, bv, sv, VZ, BEq.rfl, seval, -Int.reduceNatCast', kAgg, scD, List.all_cons, List.all_nil]
        · have h2 : ¬ (t.length : Int) ≤ x := by simpa using h2
          simp only [wrap_nat (k := k) (by omega), nums, rowsS, nodes, zv, nv, bv, sv, VZ, BEq.rfl, seval, -Int.reduceNatCast', kAgg, scD, List.all_cons, List.all_nil]
          refine ⟨k + 1, Enter.id ?_, ⟨by omega, ?_⟩, by show vs.length - (k + 1) < vs.length - k; omega⟩
          · simp only [nums, rowsS, nodes, zv, nv, bv, sv, VZ, BEq.rfl, seval, -Int.reduceNatCast', kAgg, scD, List.all_cons, List.all_nil]
          · rw [hts, hib, decide_eq_true (show 0 ≤ x by omega), decide_eq_true (show x < (t.length : Int) by omega)]; rfl
    · have hk' : k = vs.length := by
        have : ¬ k < vs.length := by simpa using h
        omega
      subst hk'
      rw [List.take_length] at hpre
      simp only [chkE, hb, hpre, if_true, nums, rowsS, nodes, zv, nv, bv, sv, VZ, BEq.rfl, seval, -Int.reduceNatCast', kAgg, scD, List.all_cons, List.all_nil]

/-! the way up, yielded -/
def upES (t : List Node) (v : Nat) : List (List AV) := (ups t v).map fun x => [nv x]
def curOf (L : List Nat) (k : Nat) : Int := if k < L.length then ((L.getD k 0 : Nat) : Int) else -1
theorem up_ok (t : List Node) (v : Int) : OkM Try.prog E 56 [.c (nodes t), zv v] [] (.fn 79 [.bp 2001 0, .bp 2002 0]) [(2001, .cells [zv v]), (2002, .cells [.c (nodes t)])] := by
  refine okM_of_vc (L := []) (ts := [4]) envOK mixed Try.func56 rfl (by kernel_rfl) rfl (by decide) (by kernel_rfl) rfl fun hl hlb => ?_
  simp only [Try.f56, nums, rowsS, nodes, zv, nv, bv, sv, VZ, BEq.rfl, seval, -Int.reduceNatCast', kAgg, scD, List.all_cons, List.all_nil]
  refine Enter.mk [] [] [(2001, 3), (2002, 2)] ?_
  simp only [nums, rowsS, nodes, zv, nv, bv, sv, VZ, BEq.rfl, seval, -Int.reduceNatCast', kAgg, scD, List.all_cons, List.all_nil]
theorem up_seq (t : List Node) (v : Nat) (ht : okTree t = true) (hv : v < t.length) : SeqM Try.prog E 79 [.bp 2001 0, .bp 2002 0] [(2001, .cells [nv v]), (2002, .cells [.c (nodes t)])] (upES t v) := by
  refine seqM_of_vc (L := []) envOK mixed Try.func79 rfl (by kernel_rfl) rfl (by kernel_rfl) rfl fun hl l => ?_
  have hU := ups_ok ht hv
  obtain ⟨h1, h63⟩ := okTree_len ht
  have hES : upES t v = (ups t v).map fun x => [nv x] := rfl
  obtain ⟨L, hL⟩ : ∃ L, ups t v = L := ⟨_, rfl⟩
  rw [hL] at hU hES
  have hll := hU.len
  simp only [hES]
  clear hES
  simp only [Try.f79, nums, rowsS, nodes, zv, nv, bv, sv, VZ, BEq.rfl, seval, -Int.reduceNatCast', kAgg, scD, List.all_cons, List.all_nil]
  refine LoopY.mk (Y := Nat) (fun k => k ≤ L.length) some (fun k => ⟨[(0, yieldV l), (1, .bp 2001 0), (2, .bp 2002 0)], [(2001, .cells [zv (curOf L k)]), (2002, .cells [.c (nodes t)])]⟩) (fun k => L.length - k) ⟨0, rfl, Enter.id ?_, by omega⟩ ?_
  · have e0 : curOf L 0 = (v : Int) := by rw [curOf, if_pos hU.pos, hU.head]
    simp only [yieldV, e0, nums, rowsS, nodes, zv, nv, bv, sv, VZ, BEq.rfl, seval, -Int.reduceNatCast', kAgg, scD, List.all_cons, List.all_nil]
  intro k hk
  have e1 : decide ((0 : Int) ≤ curOf L k) = decide (k < L.length) := by
    congr 1
    unfold curOf
    split
    · exact propext ⟨fun _ => by assumption, fun _ => by omega⟩
    · exact propext ⟨fun h => by omega, fun h => by omega⟩
  simp only [yieldV, e1, nums, rowsS, nodes, zv, nv, bv, sv, VZ, BEq.rfl, seval, -Int.reduceNatCast', kAgg, scD, List.all_cons, List.all_nil]
  refine guardB.mk (fun h => ?_) (fun h => ?_)
  · have hk' : k < L.length := by simpa using h
    clear h
    have hlt := hU.lt k hk'
    have hpar := hU.par k hk'
    have hget : (L.map fun x => [nv x])[k]? = some [nv (L.getD k 0)] := by
      rw [List.getElem?_map, List.getElem?_eq_getElem hk']
      simp [List.getD, List.getElem?_eq_getElem hk']
    have hcur : curOf L k = ((L.getD k 0 : Nat) : Int) := by rw [curOf, if_pos hk']
    have hnext : parOf t (L.getD k 0) = curOf L (k + 1) := by rw [hpar]; rfl
    obtain ⟨x, hx⟩ : ∃ x, L.getD k 0 = x := ⟨_, rfl⟩
    rw [hx] at hlt hget hcur hnext
    have hnx : (t.getD x Node.zero).parent = curOf L (k + 1) := hnext
    simp only [hcur, nums, rowsS, nodes, zv, nv, bv, sv, VZ, BEq.rfl, seval, -Int.reduceNatCast', kAgg, scD, List.all_cons, List.all_nil]
    refine YieldVC.mk (k := k) rfl hget ?_ ?_
    · simp only [getD_node t x hlt, node_def, hnx, nums, rowsS, nodes, zv, nv, bv, sv, VZ, BEq.rfl, seval, -Int.reduceNatCast', kAgg, scD, List.all_cons, List.all_nil]
      refine ⟨⟨Int.natCast_nonneg x, hlt⟩, k + 1, rfl, Enter.id ?_, by omega, by show L.length - (k + 1) < L.length - k; omega⟩
      simp only [yieldV, nums, rowsS, nodes, zv, nv, bv, sv, VZ, BEq.rfl, seval, -Int.reduceNatCast', kAgg, scD, List.all_cons, List.all_nil]
    · simp only [nums, rowsS, nodes, zv, nv, bv, sv, VZ, BEq.rfl, seval, -Int.reduceNatCast', kAgg, scD, List.all_cons, List.all_nil]
  · have hk' : k = L.length := by
      have : ¬ k < L.length := by simpa using h
      omega
    subst hk'
    simp only [List.length_map, nums, rowsS, nodes, zv, nv, bv, sv, VZ, BEq.rfl, seval, -Int.reduceNatCast', kAgg, scD, List.all_cons, List.all_nil]

end Go.Cp
end
