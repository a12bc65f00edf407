/-
  CompatPredicts returns true for every input: what is predicted knows all that was known; each cell more is that of all patterns that are compatible; predicted again, nothing becomes known that is not in all patterns that are left. Conditions: none.
-/
import Derived.Test.YtiafkdnbfpfmiaaML
set_option linter.unusedVariables false
set_option linter.unusedSimpArgs false
set_option maxHeartbeats 8000000
set_option maxRecDepth 10000
namespace Go.Cp
open Go Go.Proofs Go.Vx

theorem predicts_law (x : List Nat) (y : Nat) (hx : ∀ n ∈ x, n < 65536) (hy : y < 65536) : Ok Try.prog E 9 [.c (.sl (x.map u16D)), .c (.sc (.int .u16 y))] (bv true) := by
  refine ok_of_vc (L := [(1, [(1, 3)]), (30, [(15, 17), (16, 17)])]) (ts := [4]) envOK mixed Try.func9 rfl (by kernel_rfl) rfl (by kernel_rfl) rfl fun hl => ?_
  have hmade : Ok Try.prog E 32 [.c (.sl (x.map u16D))] (.c (corrs (madeC x))) := Ok.val (made_ok x hx)
  have hm1 : (madeC [y]).map Corr.enc = [[.sl ((madeRow y).map Cell.enc), .sc (.int .i64 (y % 7 : Nat))]] := rfl
  have hmade1 : Ok Try.prog E 32 [.c (.sl [[.sc (.int .u16 y)]])] (.c (.sl ((madeC [y]).map Corr.enc))) := Ok.val (made_ok [y] (by simp; omega))
  rw [hm1] at hmade1
  have hlen : (madeC x).length ≤ 12 := by rw [made_len]; omega
  have k1 := made_check x 256 (by omega)
  have hb := made_bound x
  have hlist := made_list x
  have hmem := fun c => made_mem (l := x) (c := c)
  generalize madeC x = L at hmade hlen k1 hb hlist hmem
  have hzv := row_valid y
  have hz5 := row_len y
  generalize madeRow y = z at hmade1 hzv hz5
  have hF : Fine L z.length := ⟨fun c hc => by rw [(hmem c hc).2.1]; exact hz5.symm, fun c hc => (hmem c hc).1⟩
  have hh : L ≠ [] → headLen L = z.length := fun h => by
    cases L with
    | nil => exact absurd rfl h
    | cons c r => exact hF.len c (List.mem_cons_self ..)
  obtain ⟨p1, p2⟩ := predict_twice hF k1 hzv hh
  have hss := fun k (hk : k < L.length) => someTo_succ (x := z) hk
  have hsle := fun k => someTo_le L z k
  simp only [Try.f9, bv, nv, k1, num_beq, beq_self_eq_true, bne_self_eq_false, List.all_cons, List.all_nil, Bool.cond_self, scD, valA, t0, List.getD_cons_zero, if_true, VL, VB, BEq.rfl, V1, V2, V3, V4, V5, V6, V7, V8, V9, V10, VE, Nat.reduceBEq, Nat.reduceAdd, Nat.reduceSub, Nat.reduceMul, Nat.reduceLeDiff, Nat.reduceLT, Nat.reduceEqDiff, Int.reduceBEq, Int.reduceBNe, Int.reduceLT, Int.reduceLE, Int.reduceAdd, Int.reduceSub, Int.reduceMul]
  refine CallX.mk hmade rfl ?_
  simp only [bv, nv, k1, num_beq, beq_self_eq_true, bne_self_eq_false, List.all_cons, List.all_nil, Bool.cond_self, scD, valA, t0, List.getD_cons_zero, if_true, VL, VB, BEq.rfl, V1, V2, V3, V4, V5, V6, V7, V8, V9, V10, VE, Nat.reduceBEq, Nat.reduceAdd, Nat.reduceSub, Nat.reduceMul, Nat.reduceLeDiff, Nat.reduceLT, Nat.reduceEqDiff, Int.reduceBEq, Int.reduceBNe, Int.reduceLT, Int.reduceLE, Int.reduceAdd, Int.reduceSub, Int.reduceMul]
  refine CallX.mk hmade1 rfl ?_
  simp only [bv, nv, k1, num_beq, beq_self_eq_true, bne_self_eq_false, List.all_cons, List.all_nil, Bool.cond_self, scD, valA, t0, List.getD_cons_zero, if_true, VL, VB, BEq.rfl, V1, V2, V3, V4, V5, V6, V7, V8, V9, V10, VE, Nat.reduceBEq, Nat.reduceAdd, Nat.reduceSub, Nat.reduceMul, Nat.reduceLeDiff, Nat.reduceLT, Nat.reduceEqDiff, Int.reduceBEq, Int.reduceBNe, Int.reduceLT, Int.reduceLE, Int.reduceAdd, Int.reduceSub, Int.reduceMul]
  refine CallX.mk (Ok.vals (predict_ok L z hb (by omega))) rfl ?_
  simp only [bv, nv, k1, num_beq, beq_self_eq_true, bne_self_eq_false, List.all_cons, List.all_nil, Bool.cond_self, scD, valA, t0, List.getD_cons_zero, if_true, VL, VB, BEq.rfl, V1, V2, V3, V4, V5, V6, V7, V8, V9, V10, VE, Nat.reduceBEq, Nat.reduceAdd, Nat.reduceSub, Nat.reduceMul, Nat.reduceLeDiff, Nat.reduceLT, Nat.reduceEqDiff, Int.reduceBEq, Int.reduceBNe, Int.reduceLT, Int.reduceLE, Int.reduceAdd, Int.reduceSub, Int.reduceMul]
  obtain ⟨out, hout⟩ : ∃ out, predO L z = out := ⟨_, rfl⟩
  obtain ⟨pe, hpe⟩ : ∃ pe, predE L z = pe := ⟨_, rfl⟩
  rw [hout, hpe] at p1
  simp only [hout, hpe] at p2
  simp only [hout, hpe]
  have hcomp : ∀ c ∈ L, okTwo c.cells z = true ∧ fitC c.cells z = fitR c.cells z := fun c hc => by
    obtain ⟨h1, h2, _⟩ := hmem c hc
    exact ⟨by rw [okTwo, h1, hzv, decide_eq_true (by omega)]; rfl, fit_same h1 hzv⟩
  refine LoopVC.cut (Y := Nat) (Z := Unit) 0 (fun i => i ≤ L.length) (fun i => ⟨[(5, .c (corrs L)), (6, .c (cells z)), (7, .c (cells out)), (8, .c (.sc (.int .i64 pe))), (9, .c (.sc (.int .i64 (someTo L z i).length))), (10, .c (.sc (.int .i64 i)))], []⟩) (fun i => L.length - i)
    (fun _ => True) (fun _ => ⟨[(5, .c (corrs L)), (6, .c (cells z)), (7, .c (cells out)), (8, .c (.sc (.int .i64 pe))), (9, .c (.sc (.int .i64 (someTo L z L.length).length)))], []⟩) ⟨0, Enter.id ?_, Nat.zero_le _⟩ ?_ ?_
  · simp only [someTo, List.take_zero, List.filter_nil, List.map_nil, bv, nv, k1, num_beq, beq_self_eq_true, bne_self_eq_false, List.all_cons, List.all_nil, Bool.cond_self, scD, valA, t0, List.getD_cons_zero, if_true, VL, VB, BEq.rfl, V1, V2, V3, V4, V5, V6, V7, V8, V9, V10, VE, Nat.reduceBEq, Nat.reduceAdd, Nat.reduceSub, Nat.reduceMul, Nat.reduceLeDiff, Nat.reduceLT, Nat.reduceEqDiff, Int.reduceBEq, Int.reduceBNe, Int.reduceLT, Int.reduceLE, Int.reduceAdd, Int.reduceSub, Int.reduceMul]
    first | done | exact ⟨rfl, rfl⟩ | rfl
  · intro i hi
    have hsi := hsle i
    simp only [lt_nat, bv, nv, k1, num_beq, beq_self_eq_true, bne_self_eq_false, List.all_cons, List.all_nil, Bool.cond_self, scD, valA, t0, List.getD_cons_zero, if_true, VL, VB, BEq.rfl, V1, V2, V3, V4, V5, V6, V7, V8, V9, V10, VE, Nat.reduceBEq, Nat.reduceAdd, Nat.reduceSub, Nat.reduceMul, Nat.reduceLeDiff, Nat.reduceLT, Nat.reduceEqDiff, Int.reduceBEq, Int.reduceBNe, Int.reduceLT, Int.reduceLE, Int.reduceAdd, Int.reduceSub, Int.reduceMul]
    refine guardB.mk (fun h => ?_) (fun h => ?_) <;> simp only [h, bv, nv, k1, num_beq, beq_self_eq_true, bne_self_eq_false, List.all_cons, List.all_nil, Bool.cond_self, scD, valA, t0, List.getD_cons_zero, if_true, VL, VB, BEq.rfl, V1, V2, V3, V4, V5, V6, V7, V8, V9, V10, VE, Nat.reduceBEq, Nat.reduceAdd, Nat.reduceSub, Nat.reduceMul, Nat.reduceLeDiff, Nat.reduceLT, Nat.reduceEqDiff, Int.reduceBEq, Int.reduceBNe, Int.reduceLT, Int.reduceLE, Int.reduceAdd, Int.reduceSub, Int.reduceMul]
    · have hi' : i < L.length := by simpa using h
      have hs1 := hss i hi'
      obtain ⟨c, hc⟩ : ∃ c, L.getD i Corr.zero = c := ⟨_, rfl⟩
      obtain ⟨e1, e2⟩ := hcomp c (by rw [← hc]; exact getD_mem hi')
      rw [hc] at hs1
      have hw := wrap_nat (k := i) (by omega)
      have hw2 := wrap_nat (k := (someTo L z i).length) (by omega)
      simp only [getD_corr, hi', hc, corr_def, hw, hw2, e1, bv, nv, k1, num_beq, beq_self_eq_true, bne_self_eq_false, List.all_cons, List.all_nil, Bool.cond_self, scD, valA, t0, List.getD_cons_zero, if_true, VL, VB, BEq.rfl, V1, V2, V3, V4, V5, V6, V7, V8, V9, V10, VE, Nat.reduceBEq, Nat.reduceAdd, Nat.reduceSub, Nat.reduceMul, Nat.reduceLeDiff, Nat.reduceLT, Nat.reduceEqDiff, Int.reduceBEq, Int.reduceBNe, Int.reduceLT, Int.reduceLE, Int.reduceAdd, Int.reduceSub, Int.reduceMul]
      refine ⟨Int.natCast_nonneg i, ?_⟩
      refine CallX.mk (compatible_ok c.cells z) rfl ?_
      simp only [getD_corr, hi', hc, corr_def, hw, hw2, e1, bv, nv, k1, num_beq, beq_self_eq_true, bne_self_eq_false, List.all_cons, List.all_nil, Bool.cond_self, scD, valA, t0, List.getD_cons_zero, if_true, VL, VB, BEq.rfl, V1, V2, V3, V4, V5, V6, V7, V8, V9, V10, VE, Nat.reduceBEq, Nat.reduceAdd, Nat.reduceSub, Nat.reduceMul, Nat.reduceLeDiff, Nat.reduceLT, Nat.reduceEqDiff, Int.reduceBEq, Int.reduceBNe, Int.reduceLT, Int.reduceLE, Int.reduceAdd, Int.reduceSub, Int.reduceMul]
      rw [← e2] at hs1
      refine guardB.mk (fun h2 => ?_) (fun h2 => ?_) <;> simp only [h2, if_true, Bool.false_eq_true, if_false, List.append_nil] at hs1 <;> simp only [getD_corr, hi', hc, corr_def, hw, hw2, e1, bv, nv, k1, num_beq, beq_self_eq_true, bne_self_eq_false, List.all_cons, List.all_nil, Bool.cond_self, scD, valA, t0, List.getD_cons_zero, if_true, VL, VB, BEq.rfl, V1, V2, V3, V4, V5, V6, V7, V8, V9, V10, VE, Nat.reduceBEq, Nat.reduceAdd, Nat.reduceSub, Nat.reduceMul, Nat.reduceLeDiff, Nat.reduceLT, Nat.reduceEqDiff, Int.reduceBEq, Int.reduceBNe, Int.reduceLT, Int.reduceLE, Int.reduceAdd, Int.reduceSub, Int.reduceMul]
      · refine ⟨i + 1, Enter.id ?_, by omega, by show L.length - (i + 1) < L.length - i; omega⟩
        simp only [hs1, List.length_append, getD_corr, hi', hc, corr_def, hw, hw2, e1, bv, nv, k1, num_beq, beq_self_eq_true, bne_self_eq_false, List.all_cons, List.all_nil, Bool.cond_self, scD, valA, t0, List.getD_cons_zero, if_true, VL, VB, BEq.rfl, V1, V2, V3, V4, V5, V6, V7, V8, V9, V10, VE, Nat.reduceBEq, Nat.reduceAdd, Nat.reduceSub, Nat.reduceMul, Nat.reduceLeDiff, Nat.reduceLT, Nat.reduceEqDiff, Int.reduceBEq, Int.reduceBNe, Int.reduceLT, Int.reduceLE, Int.reduceAdd, Int.reduceSub, Int.reduceMul]
      · refine ⟨i + 1, Enter.id ?_, by omega, by show L.length - (i + 1) < L.length - i; omega⟩
        simp only [hs1, getD_corr, hi', hc, corr_def, hw, hw2, e1, bv, nv, k1, num_beq, beq_self_eq_true, bne_self_eq_false, List.all_cons, List.all_nil, Bool.cond_self, scD, valA, t0, List.getD_cons_zero, if_true, VL, VB, BEq.rfl, V1, V2, V3, V4, V5, V6, V7, V8, V9, V10, VE, Nat.reduceBEq, Nat.reduceAdd, Nat.reduceSub, Nat.reduceMul, Nat.reduceLeDiff, Nat.reduceLT, Nat.reduceEqDiff, Int.reduceBEq, Int.reduceBNe, Int.reduceLT, Int.reduceLE, Int.reduceAdd, Int.reduceSub, Int.reduceMul]
    · have hie : i = L.length := by
        have : ¬ i < L.length := by simpa using h
        omega
      subst hie
      refine ⟨(), Enter.id ?_, trivial⟩
      simp only [bv, nv, k1, num_beq, beq_self_eq_true, bne_self_eq_false, List.all_cons, List.all_nil, Bool.cond_self, scD, valA, t0, List.getD_cons_zero, if_true, VL, VB, BEq.rfl, V1, V2, V3, V4, V5, V6, V7, V8, V9, V10, VE, Nat.reduceBEq, Nat.reduceAdd, Nat.reduceSub, Nat.reduceMul, Nat.reduceLeDiff, Nat.reduceLT, Nat.reduceEqDiff, Int.reduceBEq, Int.reduceBNe, Int.reduceLT, Int.reduceLE, Int.reduceAdd, Int.reduceSub, Int.reduceMul]
  · rintro _ _
    have hSn : ∀ c ∈ someTo L z L.length, c.length = 5 := fun c hc => by
      obtain ⟨⟨d, hd, rfl⟩, _⟩ := someTo_mem hc
      exact (hmem d hd).2.1
    obtain ⟨sn, hsn⟩ : ∃ sn, (someTo L z L.length).length = sn := ⟨_, rfl⟩
    have hs0 : ((sn : Int) == 0) = decide (sn = 0) := by rw [int_beq]; congr 1; exact propext ⟨fun h => by omega, fun h => by omega⟩
    simp only [hsn, hs0, bv, nv, k1, num_beq, beq_self_eq_true, bne_self_eq_false, List.all_cons, List.all_nil, Bool.cond_self, scD, valA, t0, List.getD_cons_zero, if_true, VL, VB, BEq.rfl, V1, V2, V3, V4, V5, V6, V7, V8, V9, V10, VE, Nat.reduceBEq, Nat.reduceAdd, Nat.reduceSub, Nat.reduceMul, Nat.reduceLeDiff, Nat.reduceLT, Nat.reduceEqDiff, Int.reduceBEq, Int.reduceBNe, Int.reduceLT, Int.reduceLE, Int.reduceAdd, Int.reduceSub, Int.reduceMul]
    refine guardB.mk (fun h => ?_) (fun h => ?_) <;> simp only [h, bv, nv, k1, num_beq, beq_self_eq_true, bne_self_eq_false, List.all_cons, List.all_nil, Bool.cond_self, scD, valA, t0, List.getD_cons_zero, if_true, VL, VB, BEq.rfl, V1, V2, V3, V4, V5, V6, V7, V8, V9, V10, VE, Nat.reduceBEq, Nat.reduceAdd, Nat.reduceSub, Nat.reduceMul, Nat.reduceLeDiff, Nat.reduceLT, Nat.reduceEqDiff, Int.reduceBEq, Int.reduceBNe, Int.reduceLT, Int.reduceLE, Int.reduceAdd, Int.reduceSub, Int.reduceMul]
    · have hnil : someTo L z L.length = [] := List.length_eq_zero_iff.1 (by rw [hsn]; simpa using h)
      obtain ⟨q1, q2⟩ := p1 hnil
      have y0 : ((0 : Nat) : Int) = 0 := rfl
      simp only [q1, q2, y0, List.map_nil, bv, nv, k1, num_beq, beq_self_eq_true, bne_self_eq_false, List.all_cons, List.all_nil, Bool.cond_self, scD, valA, t0, List.getD_cons_zero, if_true, VL, VB, BEq.rfl, V1, V2, V3, V4, V5, V6, V7, V8, V9, V10, VE, Nat.reduceBEq, Nat.reduceAdd, Nat.reduceSub, Nat.reduceMul, Nat.reduceLeDiff, Nat.reduceLT, Nat.reduceEqDiff, Int.reduceBEq, Int.reduceBNe, Int.reduceLT, Int.reduceLE, Int.reduceAdd, Int.reduceSub, Int.reduceMul]
      refine CallX.mk works_ok rfl ?_
      simp only [bv, nv, k1, num_beq, beq_self_eq_true, bne_self_eq_false, List.all_cons, List.all_nil, Bool.cond_self, scD, valA, t0, List.getD_cons_zero, if_true, VL, VB, BEq.rfl, V1, V2, V3, V4, V5, V6, V7, V8, V9, V10, VE, Nat.reduceBEq, Nat.reduceAdd, Nat.reduceSub, Nat.reduceMul, Nat.reduceLeDiff, Nat.reduceLT, Nat.reduceEqDiff, Int.reduceBEq, Int.reduceBNe, Int.reduceLT, Int.reduceLE, Int.reduceAdd, Int.reduceSub, Int.reduceMul]
    have hne : someTo L z L.length ≠ [] := fun hx => by
      rw [hx] at hsn
      have : ¬ sn = 0 := by simpa using h
      exact this hsn.symm
    obtain ⟨q1, q2, q3, q4, q5, q6, q7⟩ := p2 hne
    simp only [q1, bv, nv, k1, num_beq, beq_self_eq_true, bne_self_eq_false, List.all_cons, List.all_nil, Bool.cond_self, scD, valA, t0, List.getD_cons_zero, if_true, VL, VB, BEq.rfl, V1, V2, V3, V4, V5, V6, V7, V8, V9, V10, VE, Nat.reduceBEq, Nat.reduceAdd, Nat.reduceSub, Nat.reduceMul, Nat.reduceLeDiff, Nat.reduceLT, Nat.reduceEqDiff, Int.reduceBEq, Int.reduceBNe, Int.reduceLT, Int.reduceLE, Int.reduceAdd, Int.reduceSub, Int.reduceMul]
    refine CallX.mk (knows_ok out z) rfl ?_
    simp only [q3, bv, nv, k1, num_beq, beq_self_eq_true, bne_self_eq_false, List.all_cons, List.all_nil, Bool.cond_self, scD, valA, t0, List.getD_cons_zero, if_true, VL, VB, BEq.rfl, V1, V2, V3, V4, V5, V6, V7, V8, V9, V10, VE, Nat.reduceBEq, Nat.reduceAdd, Nat.reduceSub, Nat.reduceMul, Nat.reduceLeDiff, Nat.reduceLT, Nat.reduceEqDiff, Int.reduceBEq, Int.reduceBNe, Int.reduceLT, Int.reduceLE, Int.reduceAdd, Int.reduceSub, Int.reduceMul]
    have hol : out.length = 5 := by omega
    refine LoopVC.cut (Y := Nat) (Z := Unit) 2 (fun k => k ≤ 5) (fun k => ⟨[(5, .c (corrs L)), (6, .c (cells z)), (7, .c (cells out)), (13, .c (.sc (.int .i64 k)))], []⟩) (fun k => 5 - k)
      (fun _ => True) (fun _ => ⟨[(5, .c (corrs L)), (6, .c (cells z)), (7, .c (cells out))], []⟩) ⟨0, Enter.id ?_, by omega⟩ ?_ ?_
    · simp only [bv, nv, k1, num_beq, beq_self_eq_true, bne_self_eq_false, List.all_cons, List.all_nil, Bool.cond_self, scD, valA, t0, List.getD_cons_zero, if_true, VL, VB, BEq.rfl, V1, V2, V3, V4, V5, V6, V7, V8, V9, V10, VE, Nat.reduceBEq, Nat.reduceAdd, Nat.reduceSub, Nat.reduceMul, Nat.reduceLeDiff, Nat.reduceLT, Nat.reduceEqDiff, Int.reduceBEq, Int.reduceBNe, Int.reduceLT, Int.reduceLE, Int.reduceAdd, Int.reduceSub, Int.reduceMul]
      first | done | rfl
    · intro k hk
      have g5 : decide ((k : Int) < 5) = decide (k < 5) := lt_nat (b := 5)
      simp only [hol, g5, bv, nv, k1, num_beq, beq_self_eq_true, bne_self_eq_false, List.all_cons, List.all_nil, Bool.cond_self, scD, valA, t0, List.getD_cons_zero, if_true, VL, VB, BEq.rfl, V1, V2, V3, V4, V5, V6, V7, V8, V9, V10, VE, Nat.reduceBEq, Nat.reduceAdd, Nat.reduceSub, Nat.reduceMul, Nat.reduceLeDiff, Nat.reduceLT, Nat.reduceEqDiff, Int.reduceBEq, Int.reduceBNe, Int.reduceLT, Int.reduceLE, Int.reduceAdd, Int.reduceSub, Int.reduceMul]
      refine guardB.mk (fun h2 => ?_) (fun h2 => ?_) <;> simp only [h2, bv, nv, k1, num_beq, beq_self_eq_true, bne_self_eq_false, List.all_cons, List.all_nil, Bool.cond_self, scD, valA, t0, List.getD_cons_zero, if_true, VL, VB, BEq.rfl, V1, V2, V3, V4, V5, V6, V7, V8, V9, V10, VE, Nat.reduceBEq, Nat.reduceAdd, Nat.reduceSub, Nat.reduceMul, Nat.reduceLeDiff, Nat.reduceLT, Nat.reduceEqDiff, Int.reduceBEq, Int.reduceBNe, Int.reduceLT, Int.reduceLE, Int.reduceAdd, Int.reduceSub, Int.reduceMul]
      · have hk5 : k < 5 := by simp at h2; omega
        have kz : k < z.length := by omega
        have ko : k < out.length := by omega
        have hwk := wrap_nat (k := k) (by omega)
        obtain ⟨u, hu⟩ : ∃ u, z.getD k Cell.zero = u := ⟨_, rfl⟩
        obtain ⟨v, hv⟩ : ∃ v, out.getD k Cell.zero = v := ⟨_, rfl⟩
        have hq4 := q4 k kz
        rw [hu, hv] at hq4
        simp only [getD_enc, kz, ko, hu, hv, enc_def, hwk, bv, nv, k1, num_beq, beq_self_eq_true, bne_self_eq_false, List.all_cons, List.all_nil, Bool.cond_self, scD, valA, t0, List.getD_cons_zero, if_true, VL, VB, BEq.rfl, V1, V2, V3, V4, V5, V6, V7, V8, V9, V10, VE, Nat.reduceBEq, Nat.reduceAdd, Nat.reduceSub, Nat.reduceMul, Nat.reduceLeDiff, Nat.reduceLT, Nat.reduceEqDiff, Int.reduceBEq, Int.reduceBNe, Int.reduceLT, Int.reduceLE, Int.reduceAdd, Int.reduceSub, Int.reduceMul]
        refine ⟨Int.natCast_nonneg k, guardB.mk (fun h3 => ?_) (fun h3 => ?_)⟩ <;> simp only [h3, getD_enc, kz, ko, hu, hv, enc_def, hwk, bv, nv, k1, num_beq, beq_self_eq_true, bne_self_eq_false, List.all_cons, List.all_nil, Bool.cond_self, scD, valA, t0, List.getD_cons_zero, if_true, VL, VB, BEq.rfl, V1, V2, V3, V4, V5, V6, V7, V8, V9, V10, VE, Nat.reduceBEq, Nat.reduceAdd, Nat.reduceSub, Nat.reduceMul, Nat.reduceLeDiff, Nat.reduceLT, Nat.reduceEqDiff, Int.reduceBEq, Int.reduceBNe, Int.reduceLT, Int.reduceLE, Int.reduceAdd, Int.reduceSub, Int.reduceMul]
        · refine ⟨k + 1, Enter.id ?_, by omega, by show 5 - (k + 1) < 5 - k; omega⟩
          simp only [getD_enc, kz, ko, hu, hv, enc_def, hwk, bv, nv, k1, num_beq, beq_self_eq_true, bne_self_eq_false, List.all_cons, List.all_nil, Bool.cond_self, scD, valA, t0, List.getD_cons_zero, if_true, VL, VB, BEq.rfl, V1, V2, V3, V4, V5, V6, V7, V8, V9, V10, VE, Nat.reduceBEq, Nat.reduceAdd, Nat.reduceSub, Nat.reduceMul, Nat.reduceLeDiff, Nat.reduceLT, Nat.reduceEqDiff, Int.reduceBEq, Int.reduceBNe, Int.reduceLT, Int.reduceLE, Int.reduceAdd, Int.reduceSub, Int.reduceMul]
        have hq4 := hq4 (by simpa using h3)
        refine LoopVC.cut (Y := Nat) (Z := Unit) 4 (fun i => i ≤ L.length) (fun i => ⟨[(5, .c (corrs L)), (6, .c (cells z)), (7, .c (cells out)), (13, .c (.sc (.int .i64 k))), (14, .bp 14 0), (15, .c (.sc (.bool (allOf (someTo L z i) k)))), (16, .c (.sc (.int .i64 i))), (17, .c (.sc (.int .i64 (someTo L z i).length)))], [(14, .cells [.c (.sc (.int .i64 (atC (someTo L z i) 0 k).kind)), .c (.sc (.int .u32 (atC (someTo L z i) 0 k).plus)), .c (.sc (.int .u32 (atC (someTo L z i) 0 k).minus))])]⟩) (fun i => L.length - i)
          (fun _ => True) (fun _ => ⟨[(5, .c (corrs L)), (6, .c (cells z)), (7, .c (cells out)), (13, .c (.sc (.int .i64 k))), (14, .bp 14 0), (15, .c (.sc (.bool (allOf (someTo L z L.length) k))))], [(14, .cells [.c (.sc (.int .i64 (atC (someTo L z L.length) 0 k).kind)), .c (.sc (.int .u32 (atC (someTo L z L.length) 0 k).plus)), .c (.sc (.int .u32 (atC (someTo L z L.length) 0 k).minus))])]⟩) ⟨0, Enter.id ?_, Nat.zero_le _⟩ ?_ ?_
        · have e0 : someTo L z 0 = [] := rfl
          simp only [e0, atC_nil, allOf_nil, getD_enc, kz, ko, hu, hv, enc_def, hwk, bv, nv, k1, num_beq, beq_self_eq_true, bne_self_eq_false, List.all_cons, List.all_nil, Bool.cond_self, scD, valA, t0, List.getD_cons_zero, if_true, VL, VB, BEq.rfl, V1, V2, V3, V4, V5, V6, V7, V8, V9, V10, VE, Nat.reduceBEq, Nat.reduceAdd, Nat.reduceSub, Nat.reduceMul, Nat.reduceLeDiff, Nat.reduceLT, Nat.reduceEqDiff, Int.reduceBEq, Int.reduceBNe, Int.reduceLT, Int.reduceLE, Int.reduceAdd, Int.reduceSub, Int.reduceMul]
          exact ⟨⟨rfl, rfl⟩, rfl, rfl, rfl⟩
        · intro i hi
          have hsi := hsle i
          have hs1 := hss i
          generalize hsd : someTo L z i = s at hsi hs1 ⊢
          simp only [lt_nat, getD_enc, kz, ko, hu, hv, enc_def, hwk, bv, nv, k1, num_beq, beq_self_eq_true, bne_self_eq_false, List.all_cons, List.all_nil, Bool.cond_self, scD, valA, t0, List.getD_cons_zero, if_true, VL, VB, BEq.rfl, V1, V2, V3, V4, V5, V6, V7, V8, V9, V10, VE, Nat.reduceBEq, Nat.reduceAdd, Nat.reduceSub, Nat.reduceMul, Nat.reduceLeDiff, Nat.reduceLT, Nat.reduceEqDiff, Int.reduceBEq, Int.reduceBNe, Int.reduceLT, Int.reduceLE, Int.reduceAdd, Int.reduceSub, Int.reduceMul]
          refine guardB.mk (fun h4 => ?_) (fun h4 => ?_) <;> simp only [h4, getD_enc, kz, ko, hu, hv, enc_def, hwk, bv, nv, k1, num_beq, beq_self_eq_true, bne_self_eq_false, List.all_cons, List.all_nil, Bool.cond_self, scD, valA, t0, List.getD_cons_zero, if_true, VL, VB, BEq.rfl, V1, V2, V3, V4, V5, V6, V7, V8, V9, V10, VE, Nat.reduceBEq, Nat.reduceAdd, Nat.reduceSub, Nat.reduceMul, Nat.reduceLeDiff, Nat.reduceLT, Nat.reduceEqDiff, Int.reduceBEq, Int.reduceBNe, Int.reduceLT, Int.reduceLE, Int.reduceAdd, Int.reduceSub, Int.reduceMul]
          · have hi' : i < L.length := by simpa using h4
            have hs1 := hs1 hi'
            obtain ⟨c, hc⟩ : ∃ c, L.getD i Corr.zero = c := ⟨_, rfl⟩
            have hcm : c ∈ L := by rw [← hc]; exact getD_mem hi'
            obtain ⟨e1, e2⟩ := hcomp c hcm
            rw [hc, ← e2] at hs1
            have hw := wrap_nat (k := i) (by omega)
            have hw2 := wrap_nat (k := s.length) (by omega)
            have hck : k < c.cells.length := by rw [(hmem c hcm).2.1]; exact hk5
            obtain ⟨w, hwd⟩ : ∃ w, c.cells.getD k Cell.zero = w := ⟨_, rfl⟩
            have hs00 : ((s.length : Int) == 0) = decide (s.length = 0) := by rw [int_beq]; congr 1; exact propext ⟨fun h => by omega, fun h => by omega⟩
            simp only [getD_corr, hi', hc, corr_def, hw, hw2, e1, hck, hwd, hs00, cell_beq, getD_enc, kz, ko, hu, hv, enc_def, hwk, bv, nv, k1, num_beq, beq_self_eq_true, bne_self_eq_false, List.all_cons, List.all_nil, Bool.cond_self, scD, valA, t0, List.getD_cons_zero, if_true, VL, VB, BEq.rfl, V1, V2, V3, V4, V5, V6, V7, V8, V9, V10, VE, Nat.reduceBEq, Nat.reduceAdd, Nat.reduceSub, Nat.reduceMul, Nat.reduceLeDiff, Nat.reduceLT, Nat.reduceEqDiff, Int.reduceBEq, Int.reduceBNe, Int.reduceLT, Int.reduceLE, Int.reduceAdd, Int.reduceSub, Int.reduceMul]
            refine ⟨Int.natCast_nonneg i, ?_⟩
            refine CallX.mk (compatible_ok c.cells z) rfl ?_
            simp only [getD_corr, hi', hc, corr_def, hw, hw2, e1, hck, hwd, hs00, cell_beq, getD_enc, kz, ko, hu, hv, enc_def, hwk, bv, nv, k1, num_beq, beq_self_eq_true, bne_self_eq_false, List.all_cons, List.all_nil, Bool.cond_self, scD, valA, t0, List.getD_cons_zero, if_true, VL, VB, BEq.rfl, V1, V2, V3, V4, V5, V6, V7, V8, V9, V10, VE, Nat.reduceBEq, Nat.reduceAdd, Nat.reduceSub, Nat.reduceMul, Nat.reduceLeDiff, Nat.reduceLT, Nat.reduceEqDiff, Int.reduceBEq, Int.reduceBNe, Int.reduceLT, Int.reduceLE, Int.reduceAdd, Int.reduceSub, Int.reduceMul]
            refine guardB.mk (fun h5 => ?_) (fun h5 => ?_)
            · have hf : fitC c.cells z = false := by simpa using h5
              rw [hf, if_neg (by simp), List.append_nil] at hs1
              simp only [hf, getD_corr, hi', hc, corr_def, hw, hw2, e1, hck, hwd, hs00, cell_beq, getD_enc, kz, ko, hu, hv, enc_def, hwk, bv, nv, k1, num_beq, beq_self_eq_true, bne_self_eq_false, List.all_cons, List.all_nil, Bool.cond_self, scD, valA, t0, List.getD_cons_zero, if_true, VL, VB, BEq.rfl, V1, V2, V3, V4, V5, V6, V7, V8, V9, V10, VE, Nat.reduceBEq, Nat.reduceAdd, Nat.reduceSub, Nat.reduceMul, Nat.reduceLeDiff, Nat.reduceLT, Nat.reduceEqDiff, Int.reduceBEq, Int.reduceBNe, Int.reduceLT, Int.reduceLE, Int.reduceAdd, Int.reduceSub, Int.reduceMul]
              refine ⟨i + 1, Enter.id ?_, by omega, by show L.length - (i + 1) < L.length - i; omega⟩
              simp only [hs1, getD_corr, hi', hc, corr_def, hw, hw2, e1, hck, hwd, hs00, cell_beq, getD_enc, kz, ko, hu, hv, enc_def, hwk, bv, nv, k1, num_beq, beq_self_eq_true, bne_self_eq_false, List.all_cons, List.all_nil, Bool.cond_self, scD, valA, t0, List.getD_cons_zero, if_true, VL, VB, BEq.rfl, V1, V2, V3, V4, V5, V6, V7, V8, V9, V10, VE, Nat.reduceBEq, Nat.reduceAdd, Nat.reduceSub, Nat.reduceMul, Nat.reduceLeDiff, Nat.reduceLT, Nat.reduceEqDiff, Int.reduceBEq, Int.reduceBNe, Int.reduceLT, Int.reduceLE, Int.reduceAdd, Int.reduceSub, Int.reduceMul]
            · have hf : fitC c.cells z = true := by simpa using h5
              rw [hf, if_pos rfl] at hs1
              simp only [hf, getD_corr, hi', hc, corr_def, hw, hw2, e1, hck, hwd, hs00, cell_beq, getD_enc, kz, ko, hu, hv, enc_def, hwk, bv, nv, k1, num_beq, beq_self_eq_true, bne_self_eq_false, List.all_cons, List.all_nil, Bool.cond_self, scD, valA, t0, List.getD_cons_zero, if_true, VL, VB, BEq.rfl, V1, V2, V3, V4, V5, V6, V7, V8, V9, V10, VE, Nat.reduceBEq, Nat.reduceAdd, Nat.reduceSub, Nat.reduceMul, Nat.reduceLeDiff, Nat.reduceLT, Nat.reduceEqDiff, Int.reduceBEq, Int.reduceBNe, Int.reduceLT, Int.reduceLE, Int.reduceAdd, Int.reduceSub, Int.reduceMul]
              refine guardB.mk (fun h6 => ?_) (fun h6 => ?_) <;> simp only [h6, getD_corr, hi', hc, corr_def, hw, hw2, e1, hck, hwd, hs00, cell_beq, getD_enc, kz, ko, hu, hv, enc_def, hwk, bv, nv, k1, num_beq, beq_self_eq_true, bne_self_eq_false, List.all_cons, List.all_nil, Bool.cond_self, scD, valA, t0, List.getD_cons_zero, if_true, VL, VB, BEq.rfl, V1, V2, V3, V4, V5, V6, V7, V8, V9, V10, VE, Nat.reduceBEq, Nat.reduceAdd, Nat.reduceSub, Nat.reduceMul, Nat.reduceLeDiff, Nat.reduceLT, Nat.reduceEqDiff, Int.reduceBEq, Int.reduceBNe, Int.reduceLT, Int.reduceLE, Int.reduceAdd, Int.reduceSub, Int.reduceMul]
              · have hsn : s = [] := List.length_eq_zero_iff.1 (by simpa using h6)
                subst hsn
                have a1 : atC ([] ++ [c.cells]) 0 k = w := by rw [atC_first, hwd]
                have a2 : allOf ([] ++ [c.cells]) k = true := allOf_one _ _
                rw [List.nil_append] at hs1 a1 a2
                simp only [allOf_nil, getD_corr, hi', hc, corr_def, hw, hw2, e1, hck, hwd, hs00, cell_beq, getD_enc, kz, ko, hu, hv, enc_def, hwk, bv, nv, k1, num_beq, beq_self_eq_true, bne_self_eq_false, List.all_cons, List.all_nil, Bool.cond_self, scD, valA, t0, List.getD_cons_zero, if_true, VL, VB, BEq.rfl, V1, V2, V3, V4, V5, V6, V7, V8, V9, V10, VE, Nat.reduceBEq, Nat.reduceAdd, Nat.reduceSub, Nat.reduceMul, Nat.reduceLeDiff, Nat.reduceLT, Nat.reduceEqDiff, Int.reduceBEq, Int.reduceBNe, Int.reduceLT, Int.reduceLE, Int.reduceAdd, Int.reduceSub, Int.reduceMul]
                refine ⟨Int.natCast_nonneg i, Int.natCast_nonneg k, Int.natCast_nonneg i, Int.natCast_nonneg k, i + 1, Enter.id ?_, by omega, by show L.length - (i + 1) < L.length - i; omega⟩
                have hw0 : IntKind.i64.wrap (((0 : Nat) : Int) + 1) = ((1 : Nat) : Int) := wrap_nat (k := 0) (by omega)
                simp only [hs1, a1, a2, hw0, List.length_append, getD_corr, hi', hc, corr_def, hw, hw2, e1, hck, hwd, hs00, cell_beq, getD_enc, kz, ko, hu, hv, enc_def, hwk, bv, nv, k1, num_beq, beq_self_eq_true, bne_self_eq_false, List.all_cons, List.all_nil, Bool.cond_self, scD, valA, t0, List.getD_cons_zero, if_true, VL, VB, BEq.rfl, V1, V2, V3, V4, V5, V6, V7, V8, V9, V10, VE, Nat.reduceBEq, Nat.reduceAdd, Nat.reduceSub, Nat.reduceMul, Nat.reduceLeDiff, Nat.reduceLT, Nat.reduceEqDiff, Int.reduceBEq, Int.reduceBNe, Int.reduceLT, Int.reduceLE, Int.reduceAdd, Int.reduceSub, Int.reduceMul]
              · have hsn : 0 < s.length := by
                  have : ¬ s.length = 0 := by simpa using h6
                  omega
                have a1 : atC (s ++ [c.cells]) 0 k = atC s 0 k := atC_front hsn
                have a2 := allOf_app (c := c.cells) (k := k) hsn
                rw [hwd] at a2
                refine guardB.mk (fun h7 => ?_) (fun h7 => ?_) <;> simp only [h7, Bool.true_and, Bool.false_and] at a2 <;> simp only [h7, getD_corr, hi', hc, corr_def, hw, hw2, e1, hck, hwd, hs00, cell_beq, getD_enc, kz, ko, hu, hv, enc_def, hwk, bv, nv, k1, num_beq, beq_self_eq_true, bne_self_eq_false, List.all_cons, List.all_nil, Bool.cond_self, scD, valA, t0, List.getD_cons_zero, if_true, VL, VB, BEq.rfl, V1, V2, V3, V4, V5, V6, V7, V8, V9, V10, VE, Nat.reduceBEq, Nat.reduceAdd, Nat.reduceSub, Nat.reduceMul, Nat.reduceLeDiff, Nat.reduceLT, Nat.reduceEqDiff, Int.reduceBEq, Int.reduceBNe, Int.reduceLT, Int.reduceLE, Int.reduceAdd, Int.reduceSub, Int.reduceMul]
                · refine ⟨Int.natCast_nonneg i, Int.natCast_nonneg k, i + 1, Enter.id ?_, by omega, by show L.length - (i + 1) < L.length - i; omega⟩
                  simp only [hs1, a1, a2, List.length_append, getD_corr, hi', hc, corr_def, hw, hw2, e1, hck, hwd, hs00, cell_beq, getD_enc, kz, ko, hu, hv, enc_def, hwk, bv, nv, k1, num_beq, beq_self_eq_true, bne_self_eq_false, List.all_cons, List.all_nil, Bool.cond_self, scD, valA, t0, List.getD_cons_zero, if_true, VL, VB, BEq.rfl, V1, V2, V3, V4, V5, V6, V7, V8, V9, V10, VE, Nat.reduceBEq, Nat.reduceAdd, Nat.reduceSub, Nat.reduceMul, Nat.reduceLeDiff, Nat.reduceLT, Nat.reduceEqDiff, Int.reduceBEq, Int.reduceBNe, Int.reduceLT, Int.reduceLE, Int.reduceAdd, Int.reduceSub, Int.reduceMul]
                · refine ⟨i + 1, Enter.id ?_, by omega, by show L.length - (i + 1) < L.length - i; omega⟩
                  simp only [hs1, a1, a2, List.length_append, getD_corr, hi', hc, corr_def, hw, hw2, e1, hck, hwd, hs00, cell_beq, getD_enc, kz, ko, hu, hv, enc_def, hwk, bv, nv, k1, num_beq, beq_self_eq_true, bne_self_eq_false, List.all_cons, List.all_nil, Bool.cond_self, scD, valA, t0, List.getD_cons_zero, if_true, VL, VB, BEq.rfl, V1, V2, V3, V4, V5, V6, V7, V8, V9, V10, VE, Nat.reduceBEq, Nat.reduceAdd, Nat.reduceSub, Nat.reduceMul, Nat.reduceLeDiff, Nat.reduceLT, Nat.reduceEqDiff, Int.reduceBEq, Int.reduceBNe, Int.reduceLT, Int.reduceLE, Int.reduceAdd, Int.reduceSub, Int.reduceMul]
          · have hie : i = L.length := by
              have : ¬ i < L.length := by simpa using h4
              omega
            rw [hie] at hsd
            refine ⟨(), Enter.id ?_, trivial⟩
            simp only [hsd, getD_enc, kz, ko, hu, hv, enc_def, hwk, bv, nv, k1, num_beq, beq_self_eq_true, bne_self_eq_false, List.all_cons, List.all_nil, Bool.cond_self, scD, valA, t0, List.getD_cons_zero, if_true, VL, VB, BEq.rfl, V1, V2, V3, V4, V5, V6, V7, V8, V9, V10, VE, Nat.reduceBEq, Nat.reduceAdd, Nat.reduceSub, Nat.reduceMul, Nat.reduceLeDiff, Nat.reduceLT, Nat.reduceEqDiff, Int.reduceBEq, Int.reduceBNe, Int.reduceLT, Int.reduceLE, Int.reduceAdd, Int.reduceSub, Int.reduceMul]
        · rintro _ _
          generalize someTo L z L.length = s at hq4 ⊢
          simp only [cell_beq, zero_beq, getD_enc, kz, ko, hu, hv, enc_def, hwk, bv, nv, k1, num_beq, beq_self_eq_true, bne_self_eq_false, List.all_cons, List.all_nil, Bool.cond_self, scD, valA, t0, List.getD_cons_zero, if_true, VL, VB, BEq.rfl, V1, V2, V3, V4, V5, V6, V7, V8, V9, V10, VE, Nat.reduceBEq, Nat.reduceAdd, Nat.reduceSub, Nat.reduceMul, Nat.reduceLeDiff, Nat.reduceLT, Nat.reduceEqDiff, Int.reduceBEq, Int.reduceBNe, Int.reduceLT, Int.reduceLE, Int.reduceAdd, Int.reduceSub, Int.reduceMul]
          refine guardB.mk (fun h6 => ?_) (fun h6 => ?_) <;> simp only [h6, if_true, Bool.false_eq_true, if_false] at hq4 <;> simp only [h6, cell_beq, zero_beq, getD_enc, kz, ko, hu, hv, enc_def, hwk, bv, nv, k1, num_beq, beq_self_eq_true, bne_self_eq_false, List.all_cons, List.all_nil, Bool.cond_self, scD, valA, t0, List.getD_cons_zero, if_true, VL, VB, BEq.rfl, V1, V2, V3, V4, V5, V6, V7, V8, V9, V10, VE, Nat.reduceBEq, Nat.reduceAdd, Nat.reduceSub, Nat.reduceMul, Nat.reduceLeDiff, Nat.reduceLT, Nat.reduceEqDiff, Int.reduceBEq, Int.reduceBNe, Int.reduceLT, Int.reduceLE, Int.reduceAdd, Int.reduceSub, Int.reduceMul]
          · have y1 : decide (v = atC s 0 k) = true := decide_eq_true hq4
            simp only [y1, cell_beq, zero_beq, getD_enc, kz, ko, hu, hv, enc_def, hwk, bv, nv, k1, num_beq, beq_self_eq_true, bne_self_eq_false, List.all_cons, List.all_nil, Bool.cond_self, scD, valA, t0, List.getD_cons_zero, if_true, VL, VB, BEq.rfl, V1, V2, V3, V4, V5, V6, V7, V8, V9, V10, VE, Nat.reduceBEq, Nat.reduceAdd, Nat.reduceSub, Nat.reduceMul, Nat.reduceLeDiff, Nat.reduceLT, Nat.reduceEqDiff, Int.reduceBEq, Int.reduceBNe, Int.reduceLT, Int.reduceLE, Int.reduceAdd, Int.reduceSub, Int.reduceMul]
            refine ⟨Int.natCast_nonneg k, k + 1, Enter.id ?_, by omega, by show 5 - (k + 1) < 5 - k; omega⟩
            simp only [cell_beq, zero_beq, getD_enc, kz, ko, hu, hv, enc_def, hwk, bv, nv, k1, num_beq, beq_self_eq_true, bne_self_eq_false, List.all_cons, List.all_nil, Bool.cond_self, scD, valA, t0, List.getD_cons_zero, if_true, VL, VB, BEq.rfl, V1, V2, V3, V4, V5, V6, V7, V8, V9, V10, VE, Nat.reduceBEq, Nat.reduceAdd, Nat.reduceSub, Nat.reduceMul, Nat.reduceLeDiff, Nat.reduceLT, Nat.reduceEqDiff, Int.reduceBEq, Int.reduceBNe, Int.reduceLT, Int.reduceLE, Int.reduceAdd, Int.reduceSub, Int.reduceMul]
          · have y1 : decide (v = Cell.zero) = true := decide_eq_true hq4
            simp only [y1, cell_beq, zero_beq, getD_enc, kz, ko, hu, hv, enc_def, hwk, bv, nv, k1, num_beq, beq_self_eq_true, bne_self_eq_false, List.all_cons, List.all_nil, Bool.cond_self, scD, valA, t0, List.getD_cons_zero, if_true, VL, VB, BEq.rfl, V1, V2, V3, V4, V5, V6, V7, V8, V9, V10, VE, Nat.reduceBEq, Nat.reduceAdd, Nat.reduceSub, Nat.reduceMul, Nat.reduceLeDiff, Nat.reduceLT, Nat.reduceEqDiff, Int.reduceBEq, Int.reduceBNe, Int.reduceLT, Int.reduceLE, Int.reduceAdd, Int.reduceSub, Int.reduceMul]
            refine ⟨Int.natCast_nonneg k, k + 1, Enter.id ?_, by omega, by show 5 - (k + 1) < 5 - k; omega⟩
            simp only [cell_beq, zero_beq, getD_enc, kz, ko, hu, hv, enc_def, hwk, bv, nv, k1, num_beq, beq_self_eq_true, bne_self_eq_false, List.all_cons, List.all_nil, Bool.cond_self, scD, valA, t0, List.getD_cons_zero, if_true, VL, VB, BEq.rfl, V1, V2, V3, V4, V5, V6, V7, V8, V9, V10, VE, Nat.reduceBEq, Nat.reduceAdd, Nat.reduceSub, Nat.reduceMul, Nat.reduceLeDiff, Nat.reduceLT, Nat.reduceEqDiff, Int.reduceBEq, Int.reduceBNe, Int.reduceLT, Int.reduceLE, Int.reduceAdd, Int.reduceSub, Int.reduceMul]
      · refine ⟨(), Enter.id ?_, trivial⟩
        simp only [bv, nv, k1, num_beq, beq_self_eq_true, bne_self_eq_false, List.all_cons, List.all_nil, Bool.cond_self, scD, valA, t0, List.getD_cons_zero, if_true, VL, VB, BEq.rfl, V1, V2, V3, V4, V5, V6, V7, V8, V9, V10, VE, Nat.reduceBEq, Nat.reduceAdd, Nat.reduceSub, Nat.reduceMul, Nat.reduceLeDiff, Nat.reduceLT, Nat.reduceEqDiff, Int.reduceBEq, Int.reduceBNe, Int.reduceLT, Int.reduceLE, Int.reduceAdd, Int.reduceSub, Int.reduceMul]
    · rintro _ _
      simp only [bv, nv, k1, num_beq, beq_self_eq_true, bne_self_eq_false, List.all_cons, List.all_nil, Bool.cond_self, scD, valA, t0, List.getD_cons_zero, if_true, VL, VB, BEq.rfl, V1, V2, V3, V4, V5, V6, V7, V8, V9, V10, VE, Nat.reduceBEq, Nat.reduceAdd, Nat.reduceSub, Nat.reduceMul, Nat.reduceLeDiff, Nat.reduceLT, Nat.reduceEqDiff, Int.reduceBEq, Int.reduceBNe, Int.reduceLT, Int.reduceLE, Int.reduceAdd, Int.reduceSub, Int.reduceMul]
      refine CallX.mk (Ok.vals (predict_ok L out hb (by omega))) rfl ?_
      simp only [q6, bv, nv, k1, num_beq, beq_self_eq_true, bne_self_eq_false, List.all_cons, List.all_nil, Bool.cond_self, scD, valA, t0, List.getD_cons_zero, if_true, VL, VB, BEq.rfl, V1, V2, V3, V4, V5, V6, V7, V8, V9, V10, VE, Nat.reduceBEq, Nat.reduceAdd, Nat.reduceSub, Nat.reduceMul, Nat.reduceLeDiff, Nat.reduceLT, Nat.reduceEqDiff, Int.reduceBEq, Int.reduceBNe, Int.reduceLT, Int.reduceLE, Int.reduceAdd, Int.reduceSub, Int.reduceMul]
      refine CallX.mk (knows_ok _ out) rfl ?_
      simp only [q7, bv, nv, k1, num_beq, beq_self_eq_true, bne_self_eq_false, List.all_cons, List.all_nil, Bool.cond_self, scD, valA, t0, List.getD_cons_zero, if_true, VL, VB, BEq.rfl, V1, V2, V3, V4, V5, V6, V7, V8, V9, V10, VE, Nat.reduceBEq, Nat.reduceAdd, Nat.reduceSub, Nat.reduceMul, Nat.reduceLeDiff, Nat.reduceLT, Nat.reduceEqDiff, Int.reduceBEq, Int.reduceBNe, Int.reduceLT, Int.reduceLE, Int.reduceAdd, Int.reduceSub, Int.reduceMul]
      refine CallX.mk works_ok rfl ?_
      simp only [bv, nv, k1, num_beq, beq_self_eq_true, bne_self_eq_false, List.all_cons, List.all_nil, Bool.cond_self, scD, valA, t0, List.getD_cons_zero, if_true, VL, VB, BEq.rfl, V1, V2, V3, V4, V5, V6, V7, V8, V9, V10, VE, Nat.reduceBEq, Nat.reduceAdd, Nat.reduceSub, Nat.reduceMul, Nat.reduceLeDiff, Nat.reduceLT, Nat.reduceEqDiff, Int.reduceBEq, Int.reduceBNe, Int.reduceLT, Int.reduceLE, Int.reduceAdd, Int.reduceSub, Int.reduceMul]

end Go.Cp
namespace Go.Proofs.Ytiafkdnbfpfmiaa
open Go Go.Proofs Go.RowKit Go.ChangeShapes Go.WideShapes Go.ChangeAt Go.Vx Go.Cp

theorem compatPredicts_lifted (os : Os) (started : os.Started) (H : Type) (enc : TypeId × Value → H) :
    ReturnsInHanded {} Try.checked os 9 .any (Rows.compatPredictsSpec.pre6 enc Try.prog Try.f9 Rows.compatPredictsRow.domain false) (Rows.compatPredictsSpec.post enc Try.prog Try.f9 false true false false) := by
  refine law_lifted (m := 8) (tb := 4) os started H enc own laid (by kernel_rfl) Try.func9 rfl Try.underlying4 rfl ?_ (by kernel_rfl) (by kernel_rfl)
    (ChangeSpec.witness6 (enc := enc) (C := Try.checked) false ⟨#[], #[.slice none 0 0, .int .u16 0], []⟩ 8 (by kernel_rfl) (by kernel_rfl) (by kernel_rfl) (by kernel_rfl)) ?_
  · rw [Try.params9]
    intro ds hd
    match ds, hd with
    | [d1, d2], _ => exact ⟨rfl, rfl, rfl⟩
  · rw [Try.params9]
    intro dss h
    match dss, h with
    | [x1, x2], ⟨h1, h2, _⟩ =>
      obtain ⟨x, rfl, hx⟩ := typed_u16s (m := 6) h1
      obtain ⟨y, rfl, hy⟩ := typed_u16 (m := 7) h2
      simp only [argsAV, argAV, Try.underlying48, Try.underlying50]
      exact predicts_law x y hx hy

theorem compatPredicts_holds : Rows.CompatPredictsSaid :=
  OpenClaim.holds_of_wide 9 Try.f9 rfl rfl rfl rfl rfl rfl rfl ⟨rfl, rfl, rfl, rfl, rfl⟩ rfl rfl rfl rfl rfl (by kernel_rfl) Try.func9 (by kernel_rfl)
    (of_decide_eq_true (by kernel_rfl)) (by unfold Func.isWrapper; first | (rw [if_pos (by decide +kernel)]; kernel_rfl) | (rw [if_neg (by decide +kernel)]; exact ⟨rfl, rfl⟩))
    (fun os started H enc _ => compatPredicts_lifted os started H enc)
#print axioms compatPredicts_holds

end Go.Proofs.Ytiafkdnbfpfmiaa
