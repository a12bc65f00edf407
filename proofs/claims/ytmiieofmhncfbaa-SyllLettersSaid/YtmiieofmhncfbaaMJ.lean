/-
  Syll: strings.Join: the library's contract over any program, laid at this one and turned into a contract by value. Conditions: none.
  Syll: the examples hold. Conditions: none.
  Syll: what the statements' arguments are. Conditions: none.
-/
import Derived.Test.YtmiieofmhncfbaaMH
import Derived.Shelf.Strings.OnBuilder
import Derived.Test.YtmiieofmhncfbaaMG
import Derived.Test.YtmiieofmhncfbaaMD

section
set_option linter.unusedVariables false
set_option linter.unusedSimpArgs false
set_option maxHeartbeats 4000000
set_option maxRecDepth 10000
namespace Go.Cp
open Go Go.Proofs Go.Vx

def renJ : Go.Shelf.Ren := ⟨fun | 156 => 49 | 165 => 62 | 166 => 63 | 169 => 64 | 240 => 71 | 241 => 72 | 276 => 74 | 277 => 75 | n => n, fun | 0 => 0 | 3 => 3 | 4 => 4 | 5 => 5 | 9 => 9 | 20 => 20 | 31 => 82 | 37 => 97 | 70 => 96 | 72 => 99 | 75 => 102 | 76 => 103 | 80 => 105 | 127 => 111 | 164 => 114 | n => n, fun n => n⟩
theorem layJoin : Lays.n156 Try.prog renJ := {
  mixed := by kernel_rfl,
  f156 := Try.func49.trans (congrArg some (by kernel_rfl)),
  f165 := Try.func62.trans (congrArg some (by kernel_rfl)),
  f166 := Try.func63.trans (congrArg some (by kernel_rfl)),
  f169 := Try.func64.trans (congrArg some (by kernel_rfl)),
  f240 := Try.func71.trans (congrArg some (by kernel_rfl)),
  f241 := Try.func72.trans (congrArg some (by kernel_rfl)),
  f276 := Try.func74.trans (congrArg some (by kernel_rfl)),
  f277 := Try.func75.trans (congrArg some (by kernel_rfl)),
  t0 := Try.underlying0,
  a0 := Try.isAgg0,
  z0 := Try.sizeOf0,
  v0 := Try.zeroValue0,
  t3 := Try.underlying3,
  a3 := Try.isAgg3,
  z3 := Try.sizeOf3,
  v3 := Try.zeroValue3,
  t4 := Try.underlying4,
  a4 := Try.isAgg4,
  z4 := Try.sizeOf4,
  v4 := Try.zeroValue4,
  t9 := Try.underlying9,
  a9 := Try.isAgg9,
  z9 := Try.sizeOf9,
  v9 := Try.zeroValue9,
  t20 := Try.underlying20,
  a20 := Try.isAgg20,
  z20 := Try.sizeOf20,
  v20 := Try.zeroValue20,
  t31 := Try.underlying82,
  a31 := Try.isAgg82,
  z31 := Try.sizeOf82,
  v31 := Try.zeroValue82,
  t37 := Try.underlying97,
  a37 := Try.isAgg97,
  z37 := Try.sizeOf97,
  v37 := Try.zeroValue97,
  t70 := Try.underlying96,
  a70 := Try.isAgg96,
  z70 := Try.sizeOf96,
  v70 := Try.zeroValue96,
  t72 := Try.underlying99,
  a72 := Try.isAgg99,
  z72 := Try.sizeOf99,
  v72 := Try.zeroValue99,
  t75 := Try.underlying102,
  a75 := Try.isAgg102,
  z75 := Try.sizeOf102,
  v75 := Try.zeroValue102,
  t76 := Try.underlying103,
  a76 := Try.isAgg103,
  z76 := Try.sizeOf103,
  v76 := Try.zeroValue103,
  t127 := Try.underlying111,
  a127 := Try.isAgg111,
  z127 := Try.sizeOf111,
  v127 := Try.zeroValue111,
  t164 := Try.underlying114,
  a164 := Try.isAgg114,
  z164 := Try.sizeOf114,
  v164 := Try.zeroValue114 }
theorem extraJoin : Builder.Extra Try.prog renJ := {
  sizeBuilder := by kernel_rfl,
  liesBuilder := by kernel_rfl,
  t5 := Try.underlying5,
  a5 := Try.isAgg5,
  z5 := Try.sizeOf5,
  v5 := Try.zeroValue5,
  infoByte := by kernel_rfl,
  cellsByte := by kernel_rfl,
  sizeByte := by kernel_rfl,
  neB5 := by decide }
theorem join_ok : JoinOk := by
  intro xs sep hN hlen
  refine ⟨⟨_, Try.func49, by decide, rfl⟩, fun w M vals hM hvs hv => ?_⟩
  have h0 := hv 0 _ rfl
  have h1 := hv 1 _ rfl
  have e : vals = #[vals.getD 0 undef, vals.getD 1 undef] := by
    apply Array.ext
    · simpa using hvs
    · intro i h1 h2
      have h2 : i < 2 := h2
      match i, h2 with
      | 0, _ => simp [Array.getD_eq_getD_getElem?, Array.getElem?_eq_getElem h1]
      | 1, _ => simp [Array.getD_eq_getD_getElem?, Array.getElem?_eq_getElem h1]
  revert h0 h1 e
  generalize vals.getD 0 undef = a
  generalize vals.getD 1 undef = b
  intro h0 h1 e
  subst e
  have hb : b = .string sep := by
    cases h1 with
    | c v d h => cases h; rfl
  subst hb
  have hcell : ∃ A c, a = .slice A xs.length c ∧ xs.length ≤ c ∧ c ≤ maxLen ∧ (xs ≠ [] → ∃ bk o, A = some ⟨bk, o, none⟩ ∧ bk < w.heap.size ∧ ∀ (j : Nat) x, xs[j]? = some x → w.cell? ⟨bk, o + j, none⟩ = some (.string x)) := by
    cases h0 with
    | c v d h =>
      obtain ⟨ys, hys⟩ : ∃ ys, xs.map str = ys := ⟨_, rfl⟩
      rw [strs, hys] at h
      have hyl : ys.length = xs.length := by rw [← hys, List.length_map]
      cases h with
      | sl A c size ys cell hc hm hs0 hsz hA hr =>
        refine ⟨A, c, by rw [hyl], by omega, hm, fun hne => ?_⟩
        have hyne : ys ≠ [] := fun h => by rw [h] at hyl; exact hne (List.length_eq_zero_iff.1 hyl.symm)
        obtain ⟨ad, rfl, _, hcl⟩ := hA hyne
        have hsize : size = 1 := by
          cases xs with
          | nil => exact absurd rfl hne
          | cons x r =>
            have := hsz (str x) (by rw [← hys]; exact List.mem_cons_self ..)
            exact this.symm
        subst hsize
        have hpos : 0 < xs.length := List.length_pos_iff.2 hne
        have hc0 := hcl 0 (by omega)
        have hspot : ad.spot = none := by
          have h : w.cell? ad = some (cell 0) := hc0
          cases hs : ad.spot with
          | none => rfl
          | some k =>
            unfold World.cell? at h
            rw [hs] at h
            cases hh : w.heap[ad.block]? with
            | none => rw [hh] at h; cases h
            | some b => rw [hh] at h; cases b <;> cases h
        refine ⟨ad.block, ad.off, by rw [← hspot], World.block_lt_of_cell? w ad hc0, fun j x hj => ?_⟩
        have hjl : j < xs.length := (List.getElem?_eq_some_iff.1 hj).1
        have h := hcl j (by omega)
        have hrv := hr j (str x) 0 (.sc (.string x)) (by rw [← hys, List.getElem?_map, hj]; rfl) rfl
        rw [show j * 1 + 0 = j from by omega] at hrv
        have hx : cell j = .string x := by
          revert hrv
          generalize cell j = cv
          intro hrv
          cases hrv; rfl
        rw [hx] at h
        have ha : ad.add j = ⟨ad.block, ad.off + j, none⟩ := by
          unfold Addr.add
          split
          · rename_i hz
            subst hz
            rw [Nat.add_zero, ← hspot]
          · rfl
        rw [← ha]; exact h
  obtain ⟨A, c, rfl, hc, hm, hA⟩ := hcell
  have hfin : Calls Try.prog 49 #[.slice A xs.length c, .string sep] w fun e w' => e = .returned (.string (joinB sep xs)) ∧ RowKit.Below w.heap.size w w' := by
    by_cases hne : xs = []
    · subst hne
      exact (Any.strings_Join_none layJoin extraJoin A c sep w).mono fun e w' ⟨he, hw⟩ => ⟨he, hw ▸ RowKit.Below.refl _ _⟩
    · obtain ⟨bk, o, rfl, hbk, hcl⟩ := hA hne
      unfold maxLen at hm
      exact Any.strings_Join layJoin extraJoin bk o c xs sep w hcl hbk hN hc hlen
  exact hfin.mono fun e w' ⟨he, hb⟩ => ⟨_, he, hb, .sc _ rfl⟩
theorem Shape_ok (sc : List Snd) (p : Int) (w : List Snd) (hsc : AllIn sc) (hw : AllIn w) : Ok Try.prog E 25 [.ag (ruleD sc p), .c (word w)] (.tp [sv (shapeS sc p w), zv (checkE sc p [w])]) := Shape_of join_ok sc p w hsc hw
end Go.Cp
end

section
set_option linter.unusedVariables false
set_option linter.unusedSimpArgs false
set_option maxHeartbeats 4000000
set_option maxRecDepth 10000
namespace Go.Cp
open Go Go.Proofs Go.Vx

theorem Heavy_ok (sc : List Snd) (p : Int) (w : List Snd) (hsc : AllIn sc) (hw : AllIn w) : Ok Try.prog E 16 [.ag (ruleD sc p), .c (word w)] (.tp [.c (bols (heavyS sc p w)), zv (checkE sc p [w])]) := Heavy_of (fun sc p w hsc hw => Split_ok sc p w hsc hw) sc p w hsc hw
theorem Stress_ok (sc : List Snd) (p : Int) (w : List Snd) (mode : Int) (hsc : AllIn sc) (hw : AllIn w) : Ok Try.prog E 19 [.ag (ruleD sc p), .c (word w), zv mode] (.tp [nv (stressV sc p w mode), zv (stressE sc p w mode)]) := Stress_of (fun sc p w hsc hw => Split_ok sc p w hsc hw) sc p w mode hsc hw
def wG : List Snd := [sndP, sndA, sndP, sndA, sndN]
def wH : List Snd := [sndA, sndP, sndN, sndA]
theorem allIn_of {w : List Snd} (h : ∀ c ∈ w, c.In) : AllIn w := by
  intro k
  cases hk : w[k]? with
  | none => rw [List.getD, hk]; unfold Snd.In; decide
  | some c => rw [List.getD, hk]; exact h c (List.mem_of_getElem? hk)
theorem allIn_scG : AllIn scG := by
  refine allIn_of fun c hc => ?_
  simp only [scG, List.mem_cons, List.not_mem_nil, or_false] at hc
  rcases hc with rfl | rfl | rfl <;> (unfold Snd.In; decide)
theorem allIn_wG : AllIn wG := by
  refine allIn_of fun c hc => ?_
  simp only [wG, List.mem_cons, List.not_mem_nil, or_false] at hc
  rcases hc with rfl | rfl | rfl | rfl | rfl <;> (unfold Snd.In; decide)
theorem allIn_wH : AllIn wH := by
  refine allIn_of fun c hc => ?_
  simp only [wH, List.mem_cons, List.not_mem_nil, or_false] at hc
  rcases hc with rfl | rfl | rfl | rfl <;> (unfold Snd.In; decide)
theorem works_ok : Ok Try.prog E 18 [] (bv true) := by
  have h1 := Shape_ok scG 3 wG allIn_scG allIn_wG
  have h2 := Stress_ok scG 3 wG 5 allIn_scG allIn_wG
  have h3 := Split_ok scG 3 wH allIn_scG allIn_wH
  rw [show checkE scG 3 [wG] = 0 from by kernel_rfl, show shapeS scG 3 wG = ⟨#[67, 86, 46, 67, 86, 67]⟩ from by kernel_rfl] at h1
  rw [show stressE scG 3 wG 5 = 0 from by kernel_rfl, show stressV scG 3 wG 5 = 1 from by kernel_rfl] at h2
  rw [show checkE scG 3 [wH] = 0 from by kernel_rfl, show splitS scG 3 wH = [⟨0, 0, 1, 1⟩, ⟨1, 3, 4, 4⟩] from by kernel_rfl] at h3
  rw [show syls [⟨0, 0, 1, 1⟩, ⟨1, 3, 4, 4⟩] = .sl [[.sc (.int .i64 0), .sc (.int .i64 0), .sc (.int .i64 1), .sc (.int .i64 1)], [.sc (.int .i64 1), .sc (.int .i64 3), .sc (.int .i64 4), .sc (.int .i64 4)]] from rfl] at h3
  rw [show nv 1 = zv 1 from rfl] at h2
  refine ok_of_vc (L := []) (ts := [0]) envOK mixed Try.func18 rfl (by kernel_rfl) rfl (by kernel_rfl) rfl fun hl => ?_
  simp only [Try.f18, Bool.cond_self, word, nums, nats, zv, nv, bv, sv, VL, VB, BEq.rfl, V1, V2, V3, V4, V5, V6, V7, V8, V9, V10, V11, V12, V13, VE, Nat.reduceBEq, Nat.reduceAdd, Nat.reduceSub, Nat.reduceMul, Nat.reduceLeDiff, Nat.reduceLT, Nat.reduceEqDiff, Int.reduceBEq, Int.reduceBNe, Int.reduceLT, Int.reduceLE, Int.reduceAdd, Int.reduceSub, Int.reduceMul, kAgg, scD, List.all_cons, List.all_nil]
  refine CallX.mk p_ok rfl ?_
  simp only [Bool.cond_self, word, nums, nats, zv, nv, bv, sv, VL, VB, BEq.rfl, V1, V2, V3, V4, V5, V6, V7, V8, V9, V10, V11, V12, V13, VE, Nat.reduceBEq, Nat.reduceAdd, Nat.reduceSub, Nat.reduceMul, Nat.reduceLeDiff, Nat.reduceLT, Nat.reduceEqDiff, Int.reduceBEq, Int.reduceBNe, Int.reduceLT, Int.reduceLE, Int.reduceAdd, Int.reduceSub, Int.reduceMul, kAgg, scD, List.all_cons, List.all_nil]
  refine CallX.mk a_ok rfl ?_
  simp only [Bool.cond_self, word, nums, nats, zv, nv, bv, sv, VL, VB, BEq.rfl, V1, V2, V3, V4, V5, V6, V7, V8, V9, V10, V11, V12, V13, VE, Nat.reduceBEq, Nat.reduceAdd, Nat.reduceSub, Nat.reduceMul, Nat.reduceLeDiff, Nat.reduceLT, Nat.reduceEqDiff, Int.reduceBEq, Int.reduceBNe, Int.reduceLT, Int.reduceLE, Int.reduceAdd, Int.reduceSub, Int.reduceMul, kAgg, scD, List.all_cons, List.all_nil]
  refine CallX.mk p_ok rfl ?_
  simp only [Bool.cond_self, word, nums, nats, zv, nv, bv, sv, VL, VB, BEq.rfl, V1, V2, V3, V4, V5, V6, V7, V8, V9, V10, V11, V12, V13, VE, Nat.reduceBEq, Nat.reduceAdd, Nat.reduceSub, Nat.reduceMul, Nat.reduceLeDiff, Nat.reduceLT, Nat.reduceEqDiff, Int.reduceBEq, Int.reduceBNe, Int.reduceLT, Int.reduceLE, Int.reduceAdd, Int.reduceSub, Int.reduceMul, kAgg, scD, List.all_cons, List.all_nil]
  refine CallX.mk a_ok rfl ?_
  simp only [Bool.cond_self, word, nums, nats, zv, nv, bv, sv, VL, VB, BEq.rfl, V1, V2, V3, V4, V5, V6, V7, V8, V9, V10, V11, V12, V13, VE, Nat.reduceBEq, Nat.reduceAdd, Nat.reduceSub, Nat.reduceMul, Nat.reduceLeDiff, Nat.reduceLT, Nat.reduceEqDiff, Int.reduceBEq, Int.reduceBNe, Int.reduceLT, Int.reduceLE, Int.reduceAdd, Int.reduceSub, Int.reduceMul, kAgg, scD, List.all_cons, List.all_nil]
  refine CallX.mk n_ok rfl ?_
  simp only [Bool.cond_self, word, nums, nats, zv, nv, bv, sv, VL, VB, BEq.rfl, V1, V2, V3, V4, V5, V6, V7, V8, V9, V10, V11, V12, V13, VE, Nat.reduceBEq, Nat.reduceAdd, Nat.reduceSub, Nat.reduceMul, Nat.reduceLeDiff, Nat.reduceLT, Nat.reduceEqDiff, Int.reduceBEq, Int.reduceBNe, Int.reduceLT, Int.reduceLE, Int.reduceAdd, Int.reduceSub, Int.reduceMul, kAgg, scD, List.all_cons, List.all_nil]
  refine CallX.mk rule_ok rfl ?_
  simp only [Bool.cond_self, word, nums, nats, zv, nv, bv, sv, VL, VB, BEq.rfl, V1, V2, V3, V4, V5, V6, V7, V8, V9, V10, V11, V12, V13, VE, Nat.reduceBEq, Nat.reduceAdd, Nat.reduceSub, Nat.reduceMul, Nat.reduceLeDiff, Nat.reduceLT, Nat.reduceEqDiff, Int.reduceBEq, Int.reduceBNe, Int.reduceLT, Int.reduceLE, Int.reduceAdd, Int.reduceSub, Int.reduceMul, kAgg, scD, List.all_cons, List.all_nil]
  rw [word, wG, List.map_cons, List.map_cons, List.map_cons, List.map_cons, List.map_cons, List.map_nil] at h1 h2
  rw [word, wH, List.map_cons, List.map_cons, List.map_cons, List.map_cons, List.map_nil] at h3
  refine CallX.mk h1 rfl ?_
  simp only [Bool.cond_self, word, nums, nats, zv, nv, bv, sv, VL, VB, BEq.rfl, V1, V2, V3, V4, V5, V6, V7, V8, V9, V10, V11, V12, V13, VE, Nat.reduceBEq, Nat.reduceAdd, Nat.reduceSub, Nat.reduceMul, Nat.reduceLeDiff, Nat.reduceLT, Nat.reduceEqDiff, Int.reduceBEq, Int.reduceBNe, Int.reduceLT, Int.reduceLE, Int.reduceAdd, Int.reduceSub, Int.reduceMul, kAgg, scD, List.all_cons, List.all_nil]
  refine CallX.mk rule_ok rfl ?_
  simp only [Bool.cond_self, word, nums, nats, zv, nv, bv, sv, VL, VB, BEq.rfl, V1, V2, V3, V4, V5, V6, V7, V8, V9, V10, V11, V12, V13, VE, Nat.reduceBEq, Nat.reduceAdd, Nat.reduceSub, Nat.reduceMul, Nat.reduceLeDiff, Nat.reduceLT, Nat.reduceEqDiff, Int.reduceBEq, Int.reduceBNe, Int.reduceLT, Int.reduceLE, Int.reduceAdd, Int.reduceSub, Int.reduceMul, kAgg, scD, List.all_cons, List.all_nil]
  refine CallX.mk h2 rfl ?_
  simp only [Bool.cond_self, word, nums, nats, zv, nv, bv, sv, VL, VB, BEq.rfl, V1, V2, V3, V4, V5, V6, V7, V8, V9, V10, V11, V12, V13, VE, Nat.reduceBEq, Nat.reduceAdd, Nat.reduceSub, Nat.reduceMul, Nat.reduceLeDiff, Nat.reduceLT, Nat.reduceEqDiff, Int.reduceBEq, Int.reduceBNe, Int.reduceLT, Int.reduceLE, Int.reduceAdd, Int.reduceSub, Int.reduceMul, kAgg, scD, List.all_cons, List.all_nil]
  refine CallX.mk rule_ok rfl ?_
  simp only [Bool.cond_self, word, nums, nats, zv, nv, bv, sv, VL, VB, BEq.rfl, V1, V2, V3, V4, V5, V6, V7, V8, V9, V10, V11, V12, V13, VE, Nat.reduceBEq, Nat.reduceAdd, Nat.reduceSub, Nat.reduceMul, Nat.reduceLeDiff, Nat.reduceLT, Nat.reduceEqDiff, Int.reduceBEq, Int.reduceBNe, Int.reduceLT, Int.reduceLE, Int.reduceAdd, Int.reduceSub, Int.reduceMul, kAgg, scD, List.all_cons, List.all_nil]
  refine CallX.mk a_ok rfl ?_
  simp only [Bool.cond_self, word, nums, nats, zv, nv, bv, sv, VL, VB, BEq.rfl, V1, V2, V3, V4, V5, V6, V7, V8, V9, V10, V11, V12, V13, VE, Nat.reduceBEq, Nat.reduceAdd, Nat.reduceSub, Nat.reduceMul, Nat.reduceLeDiff, Nat.reduceLT, Nat.reduceEqDiff, Int.reduceBEq, Int.reduceBNe, Int.reduceLT, Int.reduceLE, Int.reduceAdd, Int.reduceSub, Int.reduceMul, kAgg, scD, List.all_cons, List.all_nil]
  refine CallX.mk p_ok rfl ?_
  simp only [Bool.cond_self, word, nums, nats, zv, nv, bv, sv, VL, VB, BEq.rfl, V1, V2, V3, V4, V5, V6, V7, V8, V9, V10, V11, V12, V13, VE, Nat.reduceBEq, Nat.reduceAdd, Nat.reduceSub, Nat.reduceMul, Nat.reduceLeDiff, Nat.reduceLT, Nat.reduceEqDiff, Int.reduceBEq, Int.reduceBNe, Int.reduceLT, Int.reduceLE, Int.reduceAdd, Int.reduceSub, Int.reduceMul, kAgg, scD, List.all_cons, List.all_nil]
  refine CallX.mk n_ok rfl ?_
  simp only [Bool.cond_self, word, nums, nats, zv, nv, bv, sv, VL, VB, BEq.rfl, V1, V2, V3, V4, V5, V6, V7, V8, V9, V10, V11, V12, V13, VE, Nat.reduceBEq, Nat.reduceAdd, Nat.reduceSub, Nat.reduceMul, Nat.reduceLeDiff, Nat.reduceLT, Nat.reduceEqDiff, Int.reduceBEq, Int.reduceBNe, Int.reduceLT, Int.reduceLE, Int.reduceAdd, Int.reduceSub, Int.reduceMul, kAgg, scD, List.all_cons, List.all_nil]
  refine CallX.mk a_ok rfl ?_
  simp only [Bool.cond_self, word, nums, nats, zv, nv, bv, sv, VL, VB, BEq.rfl, V1, V2, V3, V4, V5, V6, V7, V8, V9, V10, V11, V12, V13, VE, Nat.reduceBEq, Nat.reduceAdd, Nat.reduceSub, Nat.reduceMul, Nat.reduceLeDiff, Nat.reduceLT, Nat.reduceEqDiff, Int.reduceBEq, Int.reduceBNe, Int.reduceLT, Int.reduceLE, Int.reduceAdd, Int.reduceSub, Int.reduceMul, kAgg, scD, List.all_cons, List.all_nil]
  refine CallX.mk h3 rfl ?_
  have e2 : (((2 : Nat) : Int) == 2) = true := rfl
  have e3 : ([[.sc (.int .i64 0), .sc (.int .i64 0), .sc (.int .i64 1), .sc (.int .i64 1)], [.sc (.int .i64 1), .sc (.int .i64 3), .sc (.int .i64 4), .sc (.int .i64 4)]] : List (List D)).getD (Int.toNat 1) [] = [.sc (.int .i64 1), .sc (.int .i64 3), .sc (.int .i64 4), .sc (.int .i64 4)] := rfl
  simp only [e2, e3, Bool.cond_self, word, nums, nats, zv, nv, bv, sv, VL, VB, BEq.rfl, V1, V2, V3, V4, V5, V6, V7, V8, V9, V10, V11, V12, V13, VE, Nat.reduceBEq, Nat.reduceAdd, Nat.reduceSub, Nat.reduceMul, Nat.reduceLeDiff, Nat.reduceLT, Nat.reduceEqDiff, Int.reduceBEq, Int.reduceBNe, Int.reduceLT, Int.reduceLE, Int.reduceAdd, Int.reduceSub, Int.reduceMul, kAgg, scD, List.all_cons, List.all_nil]
  decide
end Go.Cp
end

section
set_option linter.unusedVariables false
set_option maxRecDepth 10000
namespace Go.Cp
open Go Go.Proofs Go.Vx

theorem wf_u32 {n : Int} (h : (Lit.int .u32 n).wf = true) : 0 ≤ n ∧ n < 4294967296 := by
  have h1 : IntKind.u32.min = 0 := rfl
  have h2 : IntKind.u32.max = 4294967295 := rfl
  simp only [Lit.wf, Bool.and_eq_true, decide_eq_true_eq] at h
  omega
theorem list_of {α : Type} {P : List D → Prop} {f : α → List D} {Q : α → Prop} (h : ∀ d, P d → ∃ a, d = f a ∧ Q a) : ∀ xs : List (List D), (∀ x ∈ xs, P x) → ∃ l : List α, xs = l.map f ∧ ∀ a ∈ l, Q a
  | [], _ => ⟨[], rfl, fun a ha => by cases ha⟩
  | d :: r, hp => by
    obtain ⟨a, rfl, ha⟩ := h d (hp _ (List.mem_cons_self ..))
    obtain ⟨l, rfl, hl⟩ := list_of h r fun x hx => hp x (List.mem_cons_of_mem _ hx)
    exact ⟨a :: l, rfl, fun x hx => by
      rcases List.mem_cons.1 hx with rfl | hx
      · exact ha
      · exact hl x hx⟩
theorem typed_int {m : Nat} {x : List D} (h : Typed Try.prog (m + 1) 3 x) : ∃ n : Int, x = num n := by
  simp only [Typed, Try.underlying3, TypedK] at h
  obtain ⟨n, rfl, _⟩ := h
  exact ⟨n, rfl⟩
theorem typed_u32 {m : Nat} {x : List D} (h : Typed Try.prog (m + 1) 48 x) : ∃ n : Nat, x = [.sc (.int .u32 n)] ∧ n < 4294967296 := by
  simp only [Typed, Try.underlying48, TypedK] at h
  obtain ⟨n, rfl, hw⟩ := h
  have hw := wf_u32 hw
  obtain ⟨k, rfl⟩ := Int.eq_ofNat_of_zero_le hw.1
  exact ⟨k, rfl, by omega⟩
theorem typed_snd {m : Nat} {x : List D} (h : Typed Try.prog (m + 2) 50 x) : ∃ c : Snd, x = c.enc ∧ c.In := by
  unfold Typed at h
  rw [Try.underlying50] at h
  obtain ⟨_, _, rfl, h1, _, _, rfl, h2, rfl⟩ := h
  obtain ⟨a, rfl, ha⟩ := typed_u32 h1
  obtain ⟨b, rfl, hb⟩ := typed_u32 h2
  exact ⟨⟨a, b⟩, rfl, ha, hb⟩
theorem typed_word {m : Nat} {x : List D} (h : Typed Try.prog (m + 3) 22 x) : ∃ w : List Snd, x = [word w] ∧ AllIn w := by
  unfold Typed at h
  rw [Try.underlying22] at h
  obtain ⟨xs, rfl, hx, _⟩ := h
  obtain ⟨l, rfl, hl⟩ := list_of (fun x hx => typed_snd hx) xs hx
  exact ⟨l, rfl, allIn_of hl⟩
theorem typed_rule {m : Nat} {x : List D} (h : Typed Try.prog (m + 4) 24 x) : ∃ (sc : List Snd) (p : Int), x = ruleD sc p ∧ AllIn sc := by
  unfold Typed at h
  rw [Try.underlying24] at h
  obtain ⟨_, _, rfl, h1, _, _, rfl, h2, rfl⟩ := h
  obtain ⟨sc, rfl, hsc⟩ := typed_word h1
  obtain ⟨p, rfl⟩ := typed_int (m := m + 2) h2
  exact ⟨sc, p, rfl, hsc⟩
theorem own : ownKnob Try.prog.godebug = none := by kernel_rfl
theorem laid : laidOutB Try.prog = true := by kernel_rfl
theorem typedL1 {P : Program} {m t1 : Nat} {dss : List (List D)} (h : TypedL P m [t1] dss) : ∃ x1, dss = [x1] ∧ Typed P m t1 x1 :=
  match dss, h with
  | [x1], ⟨h1, _⟩ => ⟨x1, rfl, h1⟩
theorem typedL2 {P : Program} {m t1 t2 : Nat} {dss : List (List D)} (h : TypedL P m [t1, t2] dss) : ∃ x1 x2, dss = [x1, x2] ∧ Typed P m t1 x1 ∧ Typed P m t2 x2 :=
  match dss, h with
  | [x1, x2], ⟨h1, h2, _⟩ => ⟨x1, x2, rfl, h1, h2⟩
theorem typedL3 {P : Program} {m t1 t2 t3 : Nat} {dss : List (List D)} (h : TypedL P m [t1, t2, t3] dss) : ∃ x1 x2 x3, dss = [x1, x2, x3] ∧ Typed P m t1 x1 ∧ Typed P m t2 x2 ∧ Typed P m t3 x3 :=
  match dss, h with
  | [x1, x2, x3], ⟨h1, h2, h3, _⟩ => ⟨x1, x2, x3, rfl, h1, h2, h3⟩
end Go.Cp
end
