/-
  CompatAssigns returns true for every input: both assignments have no conflict in a class; the one with the fewest classes has no more than the other one, not fewer than there are conflicts one after the other, and one class if there is no conflict. Conditions: none.
-/
import Derived.Test.YtiafkdnbfpfmiaaMK
set_option linter.unusedVariables false
set_option linter.unusedSimpArgs false
set_option maxHeartbeats 8000000
set_option maxRecDepth 10000
namespace Go.Cp
open Go Go.Proofs Go.Vx

def isConf (C : List (Nat × Nat)) (k i n : Nat) : Bool := (C.take n).any fun p => decide (p = (k, i))
theorem isConf_succ {C : List (Nat × Nat)} {k i n : Nat} (h : n < C.length) : isConf C k i (n + 1) = (isConf C k i n || decide (C.getD n (0, 0) = (k, i))) := by
  rw [isConf, take_next (0, 0) h, List.any_append, isConf]
  simp only [List.any_cons, List.any_nil, Bool.or_false]
def allConf (C : List (Nat × Nat)) (ap : List Nat) (i n : Nat) : Bool := (ap.take n).all fun k => isConf C k i C.length
theorem allConf_succ {C : List (Nat × Nat)} {ap : List Nat} {i n : Nat} (h : n < ap.length) : allConf C ap i (n + 1) = (allConf C ap i n && isConf C (ap.getD n 0) i C.length) := by
  rw [allConf, take_next 0 h, List.all_append, allConf]
  simp only [List.all_cons, List.all_nil, Bool.and_true]
def apartTo (C : List (Nat × Nat)) : Nat → List Nat
  | 0 => []
  | i + 1 => if allConf C (apartTo C i) i (apartTo C i).length then apartTo C i ++ [i] else apartTo C i
theorem apartTo_le (C : List (Nat × Nat)) : ∀ i, (apartTo C i).length ≤ i
  | 0 => Nat.le_refl _
  | i + 1 => by
    have := apartTo_le C i
    rw [apartTo]
    split
    · rw [List.length_append]; simp only [List.length_cons, List.length_nil]; omega
    · omega
theorem conf_row {f : List Cell → List Cell → Bool} {l : List Corr} {i : Nat} {p : Nat × Nat} {n : Nat} (h : p ∈ confRow f l i n) : p.1 = i ∧ i < p.2 ∧ p.2 < n ∧ f (cellsAt l i) (cellsAt l p.2) = false := by
  rw [confRow, List.mem_filterMap] at h
  obtain ⟨j, hj, he⟩ := h
  rw [List.mem_range'_1] at hj
  split at he
  · cases he
  · rename_i hf
    injection he with he
    subst he
    exact ⟨rfl, by omega, by omega, by simpa using hf⟩
theorem conf_mem {f : List Cell → List Cell → Bool} {l : List Corr} {k : Nat} {p : Nat × Nat} (h : p ∈ confs f l k) : p.1 < k ∧ p.1 < p.2 ∧ p.2 < l.length ∧ f (cellsAt l p.1) (cellsAt l p.2) = false := by
  rw [confs, List.mem_flatMap] at h
  obtain ⟨i, hi, hp⟩ := h
  obtain ⟨h1, h2, h3, h4⟩ := conf_row hp
  rw [List.mem_range] at hi
  subst h1
  exact ⟨hi, h2, h3, h4⟩
theorem conf_of {f : List Cell → List Cell → Bool} {l : List Corr} {i j : Nat} (hij : i < j) (hj : j < l.length) (hf : f (cellsAt l i) (cellsAt l j) = false) : (i, j) ∈ confs f l l.length := by
  rw [confs, List.mem_flatMap]
  refine ⟨i, List.mem_range.2 (by omega), ?_⟩
  rw [confRow, List.mem_filterMap]
  refine ⟨j, by rw [List.mem_range'_1]; omega, ?_⟩
  rw [hf]; rfl
theorem apart_clique {l : List Corr} {C : List (Nat × Nat)} (hC : ∀ p ∈ C, p.1 < p.2 ∧ p.2 < l.length ∧ fitR (cellsAt l p.1) (cellsAt l p.2) = false) : ∀ i, (∀ k ∈ apartTo C i, k < i) ∧ (apartTo C i).Pairwise fun i j => i < j ∧ fitR (cellsAt l i) (cellsAt l j) = false
  | 0 => ⟨fun k hk => (by cases hk), List.Pairwise.nil⟩
  | i + 1 => by
    obtain ⟨h1, h2⟩ := apart_clique hC i
    rw [apartTo]
    split
    · rename_i ha
      refine ⟨fun k hk => ?_, ?_⟩
      · rcases List.mem_append.1 hk with hk | hk
        · have := h1 k hk; omega
        · rw [List.mem_singleton] at hk; omega
      · rw [List.pairwise_append]
        refine ⟨h2, List.pairwise_singleton _ _, fun a ha' b hb => ?_⟩
        rw [List.mem_singleton] at hb
        subst hb
        rw [allConf, List.take_length, List.all_eq_true] at ha
        have := ha a ha'
        rw [isConf, List.take_length, List.any_eq_true] at this
        obtain ⟨p, hp, he⟩ := this
        rw [decide_eq_true_eq] at he
        subst he
        exact ⟨h1 a ha', (hC _ hp).2.2⟩
    · exact ⟨fun k hk => by have := h1 k hk; omega, h2⟩

def natN (n : Nat) : List D := [.sc (.int .i64 n)]
theorem getD_nat (xs : List Nat) (k : Nat) (h : k < xs.length) : (xs.map natN).getD k [] = natN (xs.getD k 0) := by
  simp [List.getD, List.getElem?_map, List.getElem?_eq_getElem h]
theorem nat_def (n : Nat) : natN n = [.sc (.int .i64 n)] := rfl
theorem getD_pair (xs : List (Nat × Nat)) (k : Nat) (h : k < xs.length) : (xs.map pairD).getD k [] = pairD (xs.getD k (0, 0)) := by
  simp [List.getD, List.getElem?_map, List.getElem?_eq_getElem h]
theorem pair_def (p : Nat × Nat) : pairD p = [.sc (.int .i64 p.1), .sc (.int .i64 p.2)] := rfl
theorem pair_eq (p : Nat × Nat) (k i : Nat) : ((p.1 : Int) == (k : Int) && ((p.2 : Int) == (i : Int))) = decide (p = (k, i)) := by
  obtain ⟨a, b⟩ := p
  simp only [Prod.mk.injEq, Bool.decide_and, int_beq]
  congr 1 <;> congr 1 <;> exact propext ⟨fun h => by omega, fun h => by omega⟩

theorem assigns_law (x : List Nat) (hx : ∀ n ∈ x, n < 65536) : Ok Try.prog E 7 [.c (.sl (x.map u16D))] (bv true) := by
  refine ok_of_vc (L := [(21, [(4, 11), (5, 11)])]) (ts := [2]) envOK mixed Try.func7 rfl (by kernel_rfl) rfl (by kernel_rfl) rfl fun hl => ?_
  have hx8 : ∀ n ∈ x.take 8, n < 65536 := fun n hn => hx n (List.mem_of_mem_take hn)
  have hmade : Ok Try.prog E 32 [.c (.sl ((x.take 8).map u16D))] (.c (corrs (madeC (x.take 8)))) := Ok.val (made_ok (x.take 8) hx8)
  have hlen : (madeC (x.take 8)).length ≤ 8 := by rw [made_len, List.length_take]; omega
  have k1 := made_check (x.take 8) 256 (by omega)
  have k2 := made_check (x.take 8) 8 (by omega)
  have hb := made_bound (x.take 8)
  have hlist := made_list (x.take 8)
  have e8 : decide ((8 : Int) < (x.length : Int)) = decide (8 < x.length) := gt_nat (a := 8)
  have t8 : (8 : Int).toNat = 8 := rfl
  generalize hLd : madeC (x.take 8) = L at hmade hlen k1 k2 hb hlist
  have hF := Fine.of hlist
  have hgs := greedy_same hlist
  obtain ⟨hf1, hf2⟩ := fewest_same hlist
  have hA := refAt_asg L
  obtain ⟨hB, hmin⟩ := best_asg L
  have hm := hmin _ hA
  obtain ⟨C, hCd⟩ : ∃ C, confs fitC L L.length = C := ⟨_, rfl⟩
  have hC : ∀ p ∈ C, p.1 < p.2 ∧ p.2 < L.length ∧ fitR (cellsAt L p.1) (cellsAt L p.2) = false := fun p hp => by
    rw [← hCd] at hp
    obtain ⟨h1, h2, h3, h4⟩ := conf_mem hp
    exact ⟨h2, h3, by rw [← fit_same (hF.at_ok (by omega)) (hF.at_ok h3)]; exact h4⟩
  have hC0 : C = [] → manyC (lblR L) (lblR L).length = min L.length 1 ∧ manyC (refAt L L.length) (refAt L L.length).length = min L.length 1 := fun h => few_zero fun i j hij hj => by
    cases hf : fitR (cellsAt L i) (cellsAt L j) with
    | true => rfl
    | false =>
      have := conf_of (f := fitC) hij hj (by rw [fit_same (hF.at_ok (by omega)) (hF.at_ok hj)]; exact hf)
      rw [hCd, h] at this
      cases this
  have hCl : C.length ≤ 64 := by
    have := confs_len fitC L L.length
    have h3 : L.length * L.length ≤ 8 * 8 := Nat.mul_le_mul hlen hlen
    rw [hCd] at this
    omega
  have hca := canon_iff.2 hA.can
  have hcb := canon_iff.2 hB.can
  have hal := hA.len
  have hbl := hB.len
  have hapA := fun i j (h1 : i < j) (h2 : j < L.length) h3 => hA.apart h1 h2 h3
  have hapB := fun i j (h1 : i < j) (h2 : j < L.length) h3 => hB.apart h1 h2 h3
  have hcl : (apartTo C L.length).length ≤ manyC (lblR L) (lblR L).length := by
    obtain ⟨c1, c2⟩ := apart_clique hC L.length
    exact clique_le hB c1 c2
  generalize refAt L L.length = a at hA hgs hm hC0 hca hal hapA
  generalize lblR L = b at hB hf1 hf2 hm hC0 hcb hbl hapB hcl hmin
  obtain ⟨nb, hnb⟩ : ∃ nb, manyC b b.length = nb := ⟨_, rfl⟩
  obtain ⟨na, hna⟩ : ∃ na, manyC a a.length = na := ⟨_, rfl⟩
  rw [hnb] at hf2 hm hC0 hcl
  rw [hna] at hm hC0
  have hle : decide ((na : Int) < (nb : Int)) = false := decide_eq_false (by omega)
  have hla : decide ((a.length : Int) = (L.length : Int)) = true := decide_eq_true (by omega)
  have hlb : decide ((b.length : Int) = (L.length : Int)) = true := decide_eq_true (by omega)
  simp only [Try.f7, bv, nv, e8, t8, k1, k2, hgs, hf1, hf2, hCd, hca, hcb, hla, hlb, hnb, hna, hle, ← List.map_take, num_beq, beq_self_eq_true, bne_self_eq_false, List.all_cons, List.all_nil, Bool.cond_self, scD, valA, if_true, VL, VB, BEq.rfl, V1, V2, V3, V4, V5, V6, V7, V8, V9, V10, VE, Nat.reduceBEq, Nat.reduceAdd, Nat.reduceSub, Nat.reduceMul, Nat.reduceLeDiff, Nat.reduceLT, Nat.reduceEqDiff, Int.reduceBEq, Int.reduceBNe, Int.reduceLT, Int.reduceLE, Int.reduceAdd, Int.reduceSub, Int.reduceMul]
  refine guardB.mk (fun h => ?_) (fun h => ?_) <;> simp only [bv, nv, e8, t8, k1, k2, hgs, hf1, hf2, hCd, hca, hcb, hla, hlb, hnb, hna, hle, ← List.map_take, num_beq, beq_self_eq_true, bne_self_eq_false, List.all_cons, List.all_nil, Bool.cond_self, scD, valA, if_true, VL, VB, BEq.rfl, V1, V2, V3, V4, V5, V6, V7, V8, V9, V10, VE, Nat.reduceBEq, Nat.reduceAdd, Nat.reduceSub, Nat.reduceMul, Nat.reduceLeDiff, Nat.reduceLT, Nat.reduceEqDiff, Int.reduceBEq, Int.reduceBNe, Int.reduceLT, Int.reduceLE, Int.reduceAdd, Int.reduceSub, Int.reduceMul]
  · refine ⟨⟨⟨by omega, by omega, by simp at h; omega⟩, fun y hy => by obtain ⟨n, _, rfl⟩ := List.mem_map.1 hy; rfl⟩, ?_⟩
    refine CallX.mk hmade rfl ?_
    simp only [bv, nv, e8, t8, k1, k2, hgs, hf1, hf2, hCd, hca, hcb, hla, hlb, hnb, hna, hle, ← List.map_take, num_beq, beq_self_eq_true, bne_self_eq_false, List.all_cons, List.all_nil, Bool.cond_self, scD, valA, if_true, VL, VB, BEq.rfl, V1, V2, V3, V4, V5, V6, V7, V8, V9, V10, VE, Nat.reduceBEq, Nat.reduceAdd, Nat.reduceSub, Nat.reduceMul, Nat.reduceLeDiff, Nat.reduceLT, Nat.reduceEqDiff, Int.reduceBEq, Int.reduceBNe, Int.reduceLT, Int.reduceLE, Int.reduceAdd, Int.reduceSub, Int.reduceMul]
    refine CallX.mk (Ok.vals (greedy_ok L hb)) rfl ?_
    simp only [bv, nv, e8, t8, k1, k2, hgs, hf1, hf2, hCd, hca, hcb, hla, hlb, hnb, hna, hle, ← List.map_take, num_beq, beq_self_eq_true, bne_self_eq_false, List.all_cons, List.all_nil, Bool.cond_self, scD, valA, if_true, VL, VB, BEq.rfl, V1, V2, V3, V4, V5, V6, V7, V8, V9, V10, VE, Nat.reduceBEq, Nat.reduceAdd, Nat.reduceSub, Nat.reduceMul, Nat.reduceLeDiff, Nat.reduceLT, Nat.reduceEqDiff, Int.reduceBEq, Int.reduceBNe, Int.reduceLT, Int.reduceLE, Int.reduceAdd, Int.reduceSub, Int.reduceMul]
    refine CallX.mk (fewest_ok L hb) rfl ?_
    simp only [bv, nv, e8, t8, k1, k2, hgs, hf1, hf2, hCd, hca, hcb, hla, hlb, hnb, hna, hle, ← List.map_take, num_beq, beq_self_eq_true, bne_self_eq_false, List.all_cons, List.all_nil, Bool.cond_self, scD, valA, if_true, VL, VB, BEq.rfl, V1, V2, V3, V4, V5, V6, V7, V8, V9, V10, VE, Nat.reduceBEq, Nat.reduceAdd, Nat.reduceSub, Nat.reduceMul, Nat.reduceLeDiff, Nat.reduceLT, Nat.reduceEqDiff, Int.reduceBEq, Int.reduceBNe, Int.reduceLT, Int.reduceLE, Int.reduceAdd, Int.reduceSub, Int.reduceMul]
    refine CallX.mk (Ok.vals (conflicts_ok L)) rfl ?_
    simp only [bv, nv, e8, t8, k1, k2, hgs, hf1, hf2, hCd, hca, hcb, hla, hlb, hnb, hna, hle, ← List.map_take, num_beq, beq_self_eq_true, bne_self_eq_false, List.all_cons, List.all_nil, Bool.cond_self, scD, valA, if_true, VL, VB, BEq.rfl, V1, V2, V3, V4, V5, V6, V7, V8, V9, V10, VE, Nat.reduceBEq, Nat.reduceAdd, Nat.reduceSub, Nat.reduceMul, Nat.reduceLeDiff, Nat.reduceLT, Nat.reduceEqDiff, Int.reduceBEq, Int.reduceBNe, Int.reduceLT, Int.reduceLE, Int.reduceAdd, Int.reduceSub, Int.reduceMul]
    refine CallX.mk (labelled_ok a L.length) rfl ?_
    simp only [bv, nv, e8, t8, k1, k2, hgs, hf1, hf2, hCd, hca, hcb, hla, hlb, hnb, hna, hle, ← List.map_take, num_beq, beq_self_eq_true, bne_self_eq_false, List.all_cons, List.all_nil, Bool.cond_self, scD, valA, if_true, VL, VB, BEq.rfl, V1, V2, V3, V4, V5, V6, V7, V8, V9, V10, VE, Nat.reduceBEq, Nat.reduceAdd, Nat.reduceSub, Nat.reduceMul, Nat.reduceLeDiff, Nat.reduceLT, Nat.reduceEqDiff, Int.reduceBEq, Int.reduceBNe, Int.reduceLT, Int.reduceLE, Int.reduceAdd, Int.reduceSub, Int.reduceMul]
    refine CallX.mk (labelled_ok b L.length) rfl ?_
    simp only [bv, nv, e8, t8, k1, k2, hgs, hf1, hf2, hCd, hca, hcb, hla, hlb, hnb, hna, hle, ← List.map_take, num_beq, beq_self_eq_true, bne_self_eq_false, List.all_cons, List.all_nil, Bool.cond_self, scD, valA, if_true, VL, VB, BEq.rfl, V1, V2, V3, V4, V5, V6, V7, V8, V9, V10, VE, Nat.reduceBEq, Nat.reduceAdd, Nat.reduceSub, Nat.reduceMul, Nat.reduceLeDiff, Nat.reduceLT, Nat.reduceEqDiff, Int.reduceBEq, Int.reduceBNe, Int.reduceLT, Int.reduceLE, Int.reduceAdd, Int.reduceSub, Int.reduceMul]
    refine CallX.mk (many_ok b) rfl ?_
    simp only [bv, nv, e8, t8, k1, k2, hgs, hf1, hf2, hCd, hca, hcb, hla, hlb, hnb, hna, hle, ← List.map_take, num_beq, beq_self_eq_true, bne_self_eq_false, List.all_cons, List.all_nil, Bool.cond_self, scD, valA, if_true, VL, VB, BEq.rfl, V1, V2, V3, V4, V5, V6, V7, V8, V9, V10, VE, Nat.reduceBEq, Nat.reduceAdd, Nat.reduceSub, Nat.reduceMul, Nat.reduceLeDiff, Nat.reduceLT, Nat.reduceEqDiff, Int.reduceBEq, Int.reduceBNe, Int.reduceLT, Int.reduceLE, Int.reduceAdd, Int.reduceSub, Int.reduceMul]
    refine CallX.mk (many_ok a) rfl ?_
    simp only [bv, nv, e8, t8, k1, k2, hgs, hf1, hf2, hCd, hca, hcb, hla, hlb, hnb, hna, hle, ← List.map_take, num_beq, beq_self_eq_true, bne_self_eq_false, List.all_cons, List.all_nil, Bool.cond_self, scD, valA, if_true, VL, VB, BEq.rfl, V1, V2, V3, V4, V5, V6, V7, V8, V9, V10, VE, Nat.reduceBEq, Nat.reduceAdd, Nat.reduceSub, Nat.reduceMul, Nat.reduceLeDiff, Nat.reduceLT, Nat.reduceEqDiff, Int.reduceBEq, Int.reduceBNe, Int.reduceLT, Int.reduceLE, Int.reduceAdd, Int.reduceSub, Int.reduceMul]
    refine LoopVC.cut (Y := Nat) (Z := Unit) 0 (fun i => i ≤ L.length) (fun i => ⟨[(3, .c (corrs L)), (4, .c (nums a)), (6, .c (nums b)), (7, .c (.sc (.int .i64 nb))), (9, .c (.sl (C.map pairD))), (11, .osl 1000 0), (12, .c (.sc (.int .i64 i)))], [(1000, .arr 3 0 ((apartTo C i).map natN))]⟩) (fun i => L.length - i)
      (fun _ => True) (fun _ => ⟨[(3, .c (corrs L)), (4, .c (nums a)), (6, .c (nums b)), (7, .c (.sc (.int .i64 nb))), (9, .c (.sl (C.map pairD))), (11, .osl 1000 0)], [(1000, .arr 3 0 ((apartTo C L.length).map natN))]⟩) ⟨0, Enter.mk [(11, (1000, 3))] [] [] ?_, by omega⟩ ?_ ?_
    · simp only [apartTo, List.map_nil, Option.isSome_some, bv, nv, e8, t8, k1, k2, hgs, hf1, hf2, hCd, hca, hcb, hla, hlb, hnb, hna, hle, ← List.map_take, num_beq, beq_self_eq_true, bne_self_eq_false, List.all_cons, List.all_nil, Bool.cond_self, scD, valA, if_true, VL, VB, BEq.rfl, V1, V2, V3, V4, V5, V6, V7, V8, V9, V10, VE, Nat.reduceBEq, Nat.reduceAdd, Nat.reduceSub, Nat.reduceMul, Nat.reduceLeDiff, Nat.reduceLT, Nat.reduceEqDiff, Int.reduceBEq, Int.reduceBNe, Int.reduceLT, Int.reduceLE, Int.reduceAdd, Int.reduceSub, Int.reduceMul]
      rfl
    · intro i hi
      have hap := apartTo_le C i
      have has : apartTo C (i + 1) = if allConf C (apartTo C i) i (apartTo C i).length then apartTo C i ++ [i] else apartTo C i := rfl
      generalize hapd : apartTo C i = ap at hap has ⊢
      simp only [lt_nat, bv, nv, e8, t8, k1, k2, hgs, hf1, hf2, hCd, hca, hcb, hla, hlb, hnb, hna, hle, ← List.map_take, num_beq, beq_self_eq_true, bne_self_eq_false, List.all_cons, List.all_nil, Bool.cond_self, scD, valA, if_true, VL, VB, BEq.rfl, V1, V2, V3, V4, V5, V6, V7, V8, V9, V10, VE, Nat.reduceBEq, Nat.reduceAdd, Nat.reduceSub, Nat.reduceMul, Nat.reduceLeDiff, Nat.reduceLT, Nat.reduceEqDiff, Int.reduceBEq, Int.reduceBNe, Int.reduceLT, Int.reduceLE, Int.reduceAdd, Int.reduceSub, Int.reduceMul]
      refine guardB.mk (fun h1 => ?_) (fun h1 => ?_) <;> simp only [h1, bv, nv, e8, t8, k1, k2, hgs, hf1, hf2, hCd, hca, hcb, hla, hlb, hnb, hna, hle, ← List.map_take, num_beq, beq_self_eq_true, bne_self_eq_false, List.all_cons, List.all_nil, Bool.cond_self, scD, valA, if_true, VL, VB, BEq.rfl, V1, V2, V3, V4, V5, V6, V7, V8, V9, V10, VE, Nat.reduceBEq, Nat.reduceAdd, Nat.reduceSub, Nat.reduceMul, Nat.reduceLeDiff, Nat.reduceLT, Nat.reduceEqDiff, Int.reduceBEq, Int.reduceBNe, Int.reduceLT, Int.reduceLE, Int.reduceAdd, Int.reduceSub, Int.reduceMul]
      · have hi' : i < L.length := by simpa using h1
        have hwi := wrap_nat (k := i) (by omega)
        refine LoopVC.cut (Y := Nat) (Z := Unit) 2 (fun k => k ≤ ap.length) (fun k => ⟨[(3, .c (corrs L)), (4, .c (nums a)), (6, .c (nums b)), (7, .c (.sc (.int .i64 nb))), (9, .c (.sl (C.map pairD))), (11, .osl 1000 0), (12, .c (.sc (.int .i64 i))), (13, .c (.sc (.bool (allConf C ap i k)))), (14, .c (.sc (.int .i64 k)))], [(1000, .arr 3 0 (ap.map natN))]⟩) (fun k => ap.length - k)
          (fun _ => True) (fun _ => ⟨[(3, .c (corrs L)), (4, .c (nums a)), (6, .c (nums b)), (7, .c (.sc (.int .i64 nb))), (9, .c (.sl (C.map pairD))), (11, .osl 1000 0), (12, .c (.sc (.int .i64 i))), (13, .c (.sc (.bool (allConf C ap i ap.length))))], [(1000, .arr 3 0 (ap.map natN))]⟩) ⟨0, Enter.id ?_, by omega⟩ ?_ ?_
        · simp only [allConf, List.take_zero, List.all_nil, lt_nat, hwi, bv, nv, e8, t8, k1, k2, hgs, hf1, hf2, hCd, hca, hcb, hla, hlb, hnb, hna, hle, ← List.map_take, num_beq, beq_self_eq_true, bne_self_eq_false, List.all_cons, List.all_nil, Bool.cond_self, scD, valA, if_true, VL, VB, BEq.rfl, V1, V2, V3, V4, V5, V6, V7, V8, V9, V10, VE, Nat.reduceBEq, Nat.reduceAdd, Nat.reduceSub, Nat.reduceMul, Nat.reduceLeDiff, Nat.reduceLT, Nat.reduceEqDiff, Int.reduceBEq, Int.reduceBNe, Int.reduceLT, Int.reduceLE, Int.reduceAdd, Int.reduceSub, Int.reduceMul]
          first | done | exact ⟨rfl, rfl⟩ | rfl
        · intro k hk
          have hcs := fun h => allConf_succ (C := C) (ap := ap) (i := i) (n := k) h
          generalize hac : allConf C ap i k = ac at hcs ⊢
          simp only [lt_nat, hwi, bv, nv, e8, t8, k1, k2, hgs, hf1, hf2, hCd, hca, hcb, hla, hlb, hnb, hna, hle, ← List.map_take, num_beq, beq_self_eq_true, bne_self_eq_false, List.all_cons, List.all_nil, Bool.cond_self, scD, valA, if_true, VL, VB, BEq.rfl, V1, V2, V3, V4, V5, V6, V7, V8, V9, V10, VE, Nat.reduceBEq, Nat.reduceAdd, Nat.reduceSub, Nat.reduceMul, Nat.reduceLeDiff, Nat.reduceLT, Nat.reduceEqDiff, Int.reduceBEq, Int.reduceBNe, Int.reduceLT, Int.reduceLE, Int.reduceAdd, Int.reduceSub, Int.reduceMul]
          refine guardB.mk (fun h2 => ?_) (fun h2 => ?_) <;> simp only [h2, lt_nat, hwi, bv, nv, e8, t8, k1, k2, hgs, hf1, hf2, hCd, hca, hcb, hla, hlb, hnb, hna, hle, ← List.map_take, num_beq, beq_self_eq_true, bne_self_eq_false, List.all_cons, List.all_nil, Bool.cond_self, scD, valA, if_true, VL, VB, BEq.rfl, V1, V2, V3, V4, V5, V6, V7, V8, V9, V10, VE, Nat.reduceBEq, Nat.reduceAdd, Nat.reduceSub, Nat.reduceMul, Nat.reduceLeDiff, Nat.reduceLT, Nat.reduceEqDiff, Int.reduceBEq, Int.reduceBNe, Int.reduceLT, Int.reduceLE, Int.reduceAdd, Int.reduceSub, Int.reduceMul]
          · have hk' : k < ap.length := by simpa using h2
            have hcs := hcs hk'
            have hwk := wrap_nat (k := k) (by omega)
            obtain ⟨q, hq⟩ : ∃ q, ap.getD k 0 = q := ⟨_, rfl⟩
            rw [hq] at hcs
            refine LoopVC.cut (Y := Nat) (Z := Unit) 4 (fun m => m ≤ C.length) (fun m => ⟨[(3, .c (corrs L)), (4, .c (nums a)), (6, .c (nums b)), (7, .c (.sc (.int .i64 nb))), (9, .c (.sl (C.map pairD))), (11, .osl 1000 0), (12, .c (.sc (.int .i64 i))), (13, .c (.sc (.bool ac))), (14, .c (.sc (.int .i64 k))), (15, .c (.sc (.bool (isConf C q i m)))), (16, .c (.sc (.int .i64 m)))], [(1000, .arr 3 0 (ap.map natN))]⟩) (fun m => C.length - m)
              (fun _ => True) (fun _ => ⟨[(3, .c (corrs L)), (4, .c (nums a)), (6, .c (nums b)), (7, .c (.sc (.int .i64 nb))), (9, .c (.sl (C.map pairD))), (11, .osl 1000 0), (12, .c (.sc (.int .i64 i))), (13, .c (.sc (.bool ac))), (14, .c (.sc (.int .i64 k))), (15, .c (.sc (.bool (isConf C q i C.length))))], [(1000, .arr 3 0 (ap.map natN))]⟩) ⟨0, Enter.id ?_, by omega⟩ ?_ ?_
            · simp only [isConf, List.take_zero, List.any_nil, getD_nat, nat_def, getD_pair, pair_def, pair_eq, hk', hq, hwk, lt_nat, hwi, bv, nv, e8, t8, k1, k2, hgs, hf1, hf2, hCd, hca, hcb, hla, hlb, hnb, hna, hle, ← List.map_take, num_beq, beq_self_eq_true, bne_self_eq_false, List.all_cons, List.all_nil, Bool.cond_self, scD, valA, if_true, VL, VB, BEq.rfl, V1, V2, V3, V4, V5, V6, V7, V8, V9, V10, VE, Nat.reduceBEq, Nat.reduceAdd, Nat.reduceSub, Nat.reduceMul, Nat.reduceLeDiff, Nat.reduceLT, Nat.reduceEqDiff, Int.reduceBEq, Int.reduceBNe, Int.reduceLT, Int.reduceLE, Int.reduceAdd, Int.reduceSub, Int.reduceMul]
              first | done | exact ⟨rfl, rfl⟩ | rfl
            · intro m hm2
              have his := fun h => isConf_succ (C := C) (k := q) (i := i) (n := m) h
              generalize hic : isConf C q i m = ic at his ⊢
              simp only [getD_nat, nat_def, getD_pair, pair_def, pair_eq, hk', hq, hwk, lt_nat, hwi, bv, nv, e8, t8, k1, k2, hgs, hf1, hf2, hCd, hca, hcb, hla, hlb, hnb, hna, hle, ← List.map_take, num_beq, beq_self_eq_true, bne_self_eq_false, List.all_cons, List.all_nil, Bool.cond_self, scD, valA, if_true, VL, VB, BEq.rfl, V1, V2, V3, V4, V5, V6, V7, V8, V9, V10, VE, Nat.reduceBEq, Nat.reduceAdd, Nat.reduceSub, Nat.reduceMul, Nat.reduceLeDiff, Nat.reduceLT, Nat.reduceEqDiff, Int.reduceBEq, Int.reduceBNe, Int.reduceLT, Int.reduceLE, Int.reduceAdd, Int.reduceSub, Int.reduceMul]
              refine guardB.mk (fun h3 => ?_) (fun h3 => ?_) <;> simp only [h3, getD_nat, nat_def, getD_pair, pair_def, pair_eq, hk', hq, hwk, lt_nat, hwi, bv, nv, e8, t8, k1, k2, hgs, hf1, hf2, hCd, hca, hcb, hla, hlb, hnb, hna, hle, ← List.map_take, num_beq, beq_self_eq_true, bne_self_eq_false, List.all_cons, List.all_nil, Bool.cond_self, scD, valA, if_true, VL, VB, BEq.rfl, V1, V2, V3, V4, V5, V6, V7, V8, V9, V10, VE, Nat.reduceBEq, Nat.reduceAdd, Nat.reduceSub, Nat.reduceMul, Nat.reduceLeDiff, Nat.reduceLT, Nat.reduceEqDiff, Int.reduceBEq, Int.reduceBNe, Int.reduceLT, Int.reduceLE, Int.reduceAdd, Int.reduceSub, Int.reduceMul]
              · have hm' : m < C.length := by simpa using h3
                have his := his hm'
                have hwm := wrap_nat (k := m) (by omega)
                refine guardB.mk (fun h4 => ?_) (fun h4 => ?_) <;> simp only [h4, hm', hwm, getD_nat, nat_def, getD_pair, pair_def, pair_eq, hk', hq, hwk, lt_nat, hwi, bv, nv, e8, t8, k1, k2, hgs, hf1, hf2, hCd, hca, hcb, hla, hlb, hnb, hna, hle, ← List.map_take, num_beq, beq_self_eq_true, bne_self_eq_false, List.all_cons, List.all_nil, Bool.cond_self, scD, valA, if_true, VL, VB, BEq.rfl, V1, V2, V3, V4, V5, V6, V7, V8, V9, V10, VE, Nat.reduceBEq, Nat.reduceAdd, Nat.reduceSub, Nat.reduceMul, Nat.reduceLeDiff, Nat.reduceLT, Nat.reduceEqDiff, Int.reduceBEq, Int.reduceBNe, Int.reduceLT, Int.reduceLE, Int.reduceAdd, Int.reduceSub, Int.reduceMul]
                · rw [h4, Bool.true_or] at his
                  refine ⟨m + 1, Enter.id ?_, by omega, by show C.length - (m + 1) < C.length - m; omega⟩
                  simp only [his, hwm, getD_nat, nat_def, getD_pair, pair_def, pair_eq, hk', hq, hwk, lt_nat, hwi, bv, nv, e8, t8, k1, k2, hgs, hf1, hf2, hCd, hca, hcb, hla, hlb, hnb, hna, hle, ← List.map_take, num_beq, beq_self_eq_true, bne_self_eq_false, List.all_cons, List.all_nil, Bool.cond_self, scD, valA, if_true, VL, VB, BEq.rfl, V1, V2, V3, V4, V5, V6, V7, V8, V9, V10, VE, Nat.reduceBEq, Nat.reduceAdd, Nat.reduceSub, Nat.reduceMul, Nat.reduceLeDiff, Nat.reduceLT, Nat.reduceEqDiff, Int.reduceBEq, Int.reduceBNe, Int.reduceLT, Int.reduceLE, Int.reduceAdd, Int.reduceSub, Int.reduceMul]
                · rw [h4, Bool.false_or] at his
                  refine ⟨Int.natCast_nonneg m, Int.natCast_nonneg k, m + 1, Enter.id ?_, by omega, by show C.length - (m + 1) < C.length - m; omega⟩
                  simp only [his, hwm, getD_nat, nat_def, getD_pair, pair_def, pair_eq, hk', hq, hwk, lt_nat, hwi, bv, nv, e8, t8, k1, k2, hgs, hf1, hf2, hCd, hca, hcb, hla, hlb, hnb, hna, hle, ← List.map_take, num_beq, beq_self_eq_true, bne_self_eq_false, List.all_cons, List.all_nil, Bool.cond_self, scD, valA, if_true, VL, VB, BEq.rfl, V1, V2, V3, V4, V5, V6, V7, V8, V9, V10, VE, Nat.reduceBEq, Nat.reduceAdd, Nat.reduceSub, Nat.reduceMul, Nat.reduceLeDiff, Nat.reduceLT, Nat.reduceEqDiff, Int.reduceBEq, Int.reduceBNe, Int.reduceLT, Int.reduceLE, Int.reduceAdd, Int.reduceSub, Int.reduceMul]
              · have hme : m = C.length := by
                  have : ¬ m < C.length := by simpa using h3
                  omega
                subst hme
                refine ⟨(), Enter.id ?_, trivial⟩
                simp only [hic, getD_nat, nat_def, getD_pair, pair_def, pair_eq, hk', hq, hwk, lt_nat, hwi, bv, nv, e8, t8, k1, k2, hgs, hf1, hf2, hCd, hca, hcb, hla, hlb, hnb, hna, hle, ← List.map_take, num_beq, beq_self_eq_true, bne_self_eq_false, List.all_cons, List.all_nil, Bool.cond_self, scD, valA, if_true, VL, VB, BEq.rfl, V1, V2, V3, V4, V5, V6, V7, V8, V9, V10, VE, Nat.reduceBEq, Nat.reduceAdd, Nat.reduceSub, Nat.reduceMul, Nat.reduceLeDiff, Nat.reduceLT, Nat.reduceEqDiff, Int.reduceBEq, Int.reduceBNe, Int.reduceLT, Int.reduceLE, Int.reduceAdd, Int.reduceSub, Int.reduceMul]
            · rintro _ _
              simp only [getD_nat, nat_def, getD_pair, pair_def, pair_eq, hk', hq, hwk, lt_nat, hwi, bv, nv, e8, t8, k1, k2, hgs, hf1, hf2, hCd, hca, hcb, hla, hlb, hnb, hna, hle, ← List.map_take, num_beq, beq_self_eq_true, bne_self_eq_false, List.all_cons, List.all_nil, Bool.cond_self, scD, valA, if_true, VL, VB, BEq.rfl, V1, V2, V3, V4, V5, V6, V7, V8, V9, V10, VE, Nat.reduceBEq, Nat.reduceAdd, Nat.reduceSub, Nat.reduceMul, Nat.reduceLeDiff, Nat.reduceLT, Nat.reduceEqDiff, Int.reduceBEq, Int.reduceBNe, Int.reduceLT, Int.reduceLE, Int.reduceAdd, Int.reduceSub, Int.reduceMul]
              refine guardB.mk (fun h4 => ?_) (fun h4 => ?_) <;> simp only [h4, getD_nat, nat_def, getD_pair, pair_def, pair_eq, hk', hq, hwk, lt_nat, hwi, bv, nv, e8, t8, k1, k2, hgs, hf1, hf2, hCd, hca, hcb, hla, hlb, hnb, hna, hle, ← List.map_take, num_beq, beq_self_eq_true, bne_self_eq_false, List.all_cons, List.all_nil, Bool.cond_self, scD, valA, if_true, VL, VB, BEq.rfl, V1, V2, V3, V4, V5, V6, V7, V8, V9, V10, VE, Nat.reduceBEq, Nat.reduceAdd, Nat.reduceSub, Nat.reduceMul, Nat.reduceLeDiff, Nat.reduceLT, Nat.reduceEqDiff, Int.reduceBEq, Int.reduceBNe, Int.reduceLT, Int.reduceLE, Int.reduceAdd, Int.reduceSub, Int.reduceMul]
              · rw [h4, Bool.true_and] at hcs
                refine ⟨k + 1, Enter.id ?_, by omega, by show ap.length - (k + 1) < ap.length - k; omega⟩
                simp only [hcs, getD_nat, nat_def, getD_pair, pair_def, pair_eq, hk', hq, hwk, lt_nat, hwi, bv, nv, e8, t8, k1, k2, hgs, hf1, hf2, hCd, hca, hcb, hla, hlb, hnb, hna, hle, ← List.map_take, num_beq, beq_self_eq_true, bne_self_eq_false, List.all_cons, List.all_nil, Bool.cond_self, scD, valA, if_true, VL, VB, BEq.rfl, V1, V2, V3, V4, V5, V6, V7, V8, V9, V10, VE, Nat.reduceBEq, Nat.reduceAdd, Nat.reduceSub, Nat.reduceMul, Nat.reduceLeDiff, Nat.reduceLT, Nat.reduceEqDiff, Int.reduceBEq, Int.reduceBNe, Int.reduceLT, Int.reduceLE, Int.reduceAdd, Int.reduceSub, Int.reduceMul]
              · rw [h4, Bool.false_and] at hcs
                refine ⟨k + 1, Enter.id ?_, by omega, by show ap.length - (k + 1) < ap.length - k; omega⟩
                simp only [hcs, getD_nat, nat_def, getD_pair, pair_def, pair_eq, hk', hq, hwk, lt_nat, hwi, bv, nv, e8, t8, k1, k2, hgs, hf1, hf2, hCd, hca, hcb, hla, hlb, hnb, hna, hle, ← List.map_take, num_beq, beq_self_eq_true, bne_self_eq_false, List.all_cons, List.all_nil, Bool.cond_self, scD, valA, if_true, VL, VB, BEq.rfl, V1, V2, V3, V4, V5, V6, V7, V8, V9, V10, VE, Nat.reduceBEq, Nat.reduceAdd, Nat.reduceSub, Nat.reduceMul, Nat.reduceLeDiff, Nat.reduceLT, Nat.reduceEqDiff, Int.reduceBEq, Int.reduceBNe, Int.reduceLT, Int.reduceLE, Int.reduceAdd, Int.reduceSub, Int.reduceMul]
          · have hke : k = ap.length := by
              have : ¬ k < ap.length := by simpa using h2
              omega
            subst hke
            refine ⟨(), Enter.id ?_, trivial⟩
            simp only [hac, lt_nat, hwi, bv, nv, e8, t8, k1, k2, hgs, hf1, hf2, hCd, hca, hcb, hla, hlb, hnb, hna, hle, ← List.map_take, num_beq, beq_self_eq_true, bne_self_eq_false, List.all_cons, List.all_nil, Bool.cond_self, scD, valA, if_true, VL, VB, BEq.rfl, V1, V2, V3, V4, V5, V6, V7, V8, V9, V10, VE, Nat.reduceBEq, Nat.reduceAdd, Nat.reduceSub, Nat.reduceMul, Nat.reduceLeDiff, Nat.reduceLT, Nat.reduceEqDiff, Int.reduceBEq, Int.reduceBNe, Int.reduceLT, Int.reduceLE, Int.reduceAdd, Int.reduceSub, Int.reduceMul]
        · rintro _ _
          simp only [lt_nat, hwi, bv, nv, e8, t8, k1, k2, hgs, hf1, hf2, hCd, hca, hcb, hla, hlb, hnb, hna, hle, ← List.map_take, num_beq, beq_self_eq_true, bne_self_eq_false, List.all_cons, List.all_nil, Bool.cond_self, scD, valA, if_true, VL, VB, BEq.rfl, V1, V2, V3, V4, V5, V6, V7, V8, V9, V10, VE, Nat.reduceBEq, Nat.reduceAdd, Nat.reduceSub, Nat.reduceMul, Nat.reduceLeDiff, Nat.reduceLT, Nat.reduceEqDiff, Int.reduceBEq, Int.reduceBNe, Int.reduceLT, Int.reduceLE, Int.reduceAdd, Int.reduceSub, Int.reduceMul]
          refine guardB.mk (fun h4 => ?_) (fun h4 => ?_) <;> simp only [h4, if_true, Bool.false_eq_true, if_false] at has <;> simp only [lt_nat, hwi, bv, nv, e8, t8, k1, k2, hgs, hf1, hf2, hCd, hca, hcb, hla, hlb, hnb, hna, hle, ← List.map_take, num_beq, beq_self_eq_true, bne_self_eq_false, List.all_cons, List.all_nil, Bool.cond_self, scD, valA, if_true, VL, VB, BEq.rfl, V1, V2, V3, V4, V5, V6, V7, V8, V9, V10, VE, Nat.reduceBEq, Nat.reduceAdd, Nat.reduceSub, Nat.reduceMul, Nat.reduceLeDiff, Nat.reduceLT, Nat.reduceEqDiff, Int.reduceBEq, Int.reduceBNe, Int.reduceLT, Int.reduceLE, Int.reduceAdd, Int.reduceSub, Int.reduceMul]
          · refine ⟨⟨by omega, allLen_one rfl⟩, i + 1, Enter.id ?_, by omega, by show L.length - (i + 1) < L.length - i; omega⟩
            simp only [has, List.map_append, nat_def, lt_nat, hwi, bv, nv, e8, t8, k1, k2, hgs, hf1, hf2, hCd, hca, hcb, hla, hlb, hnb, hna, hle, ← List.map_take, num_beq, beq_self_eq_true, bne_self_eq_false, List.all_cons, List.all_nil, Bool.cond_self, scD, valA, if_true, VL, VB, BEq.rfl, V1, V2, V3, V4, V5, V6, V7, V8, V9, V10, VE, Nat.reduceBEq, Nat.reduceAdd, Nat.reduceSub, Nat.reduceMul, Nat.reduceLeDiff, Nat.reduceLT, Nat.reduceEqDiff, Int.reduceBEq, Int.reduceBNe, Int.reduceLT, Int.reduceLE, Int.reduceAdd, Int.reduceSub, Int.reduceMul]
          · refine ⟨i + 1, Enter.id ?_, by omega, by show L.length - (i + 1) < L.length - i; omega⟩
            simp only [has, lt_nat, hwi, bv, nv, e8, t8, k1, k2, hgs, hf1, hf2, hCd, hca, hcb, hla, hlb, hnb, hna, hle, ← List.map_take, num_beq, beq_self_eq_true, bne_self_eq_false, List.all_cons, List.all_nil, Bool.cond_self, scD, valA, if_true, VL, VB, BEq.rfl, V1, V2, V3, V4, V5, V6, V7, V8, V9, V10, VE, Nat.reduceBEq, Nat.reduceAdd, Nat.reduceSub, Nat.reduceMul, Nat.reduceLeDiff, Nat.reduceLT, Nat.reduceEqDiff, Int.reduceBEq, Int.reduceBNe, Int.reduceLT, Int.reduceLE, Int.reduceAdd, Int.reduceSub, Int.reduceMul]
      · have hie : i = L.length := by
          have : ¬ i < L.length := by simpa using h1
          omega
        subst hie
        refine ⟨(), Enter.id ?_, trivial⟩
        simp only [hapd, bv, nv, e8, t8, k1, k2, hgs, hf1, hf2, hCd, hca, hcb, hla, hlb, hnb, hna, hle, ← List.map_take, num_beq, beq_self_eq_true, bne_self_eq_false, List.all_cons, List.all_nil, Bool.cond_self, scD, valA, if_true, VL, VB, BEq.rfl, V1, V2, V3, V4, V5, V6, V7, V8, V9, V10, VE, Nat.reduceBEq, Nat.reduceAdd, Nat.reduceSub, Nat.reduceMul, Nat.reduceLeDiff, Nat.reduceLT, Nat.reduceEqDiff, Int.reduceBEq, Int.reduceBNe, Int.reduceLT, Int.reduceLE, Int.reduceAdd, Int.reduceSub, Int.reduceMul]
    · rintro _ _
      have hap := apartTo_le C L.length
      generalize apartTo C L.length = ap at hcl hap ⊢
      simp only [bv, nv, e8, t8, k1, k2, hgs, hf1, hf2, hCd, hca, hcb, hla, hlb, hnb, hna, hle, ← List.map_take, num_beq, beq_self_eq_true, bne_self_eq_false, List.all_cons, List.all_nil, Bool.cond_self, scD, valA, if_true, VL, VB, BEq.rfl, V1, V2, V3, V4, V5, V6, V7, V8, V9, V10, VE, Nat.reduceBEq, Nat.reduceAdd, Nat.reduceSub, Nat.reduceMul, Nat.reduceLeDiff, Nat.reduceLT, Nat.reduceEqDiff, Int.reduceBEq, Int.reduceBNe, Int.reduceLT, Int.reduceLE, Int.reduceAdd, Int.reduceSub, Int.reduceMul]
      refine LoopVC.cut (Y := Nat) (Z := Unit) 6 (fun m => m ≤ C.length) (fun m => ⟨[(3, .c (corrs L)), (4, .c (nums a)), (6, .c (nums b)), (7, .c (.sc (.int .i64 nb))), (9, .c (.sl (C.map pairD))), (11, .osl 1000 0), (17, .c (.sc (.int .i64 m)))], [(1000, .arr 3 0 (ap.map natN))]⟩) (fun m => C.length - m)
        (fun _ => True) (fun _ => ⟨[(3, .c (corrs L)), (4, .c (nums a)), (6, .c (nums b)), (7, .c (.sc (.int .i64 nb))), (9, .c (.sl (C.map pairD))), (11, .osl 1000 0)], [(1000, .arr 3 0 (ap.map natN))]⟩) ⟨0, Enter.id ?_, by omega⟩ ?_ ?_
      · simp only [bv, nv, e8, t8, k1, k2, hgs, hf1, hf2, hCd, hca, hcb, hla, hlb, hnb, hna, hle, ← List.map_take, num_beq, beq_self_eq_true, bne_self_eq_false, List.all_cons, List.all_nil, Bool.cond_self, scD, valA, if_true, VL, VB, BEq.rfl, V1, V2, V3, V4, V5, V6, V7, V8, V9, V10, VE, Nat.reduceBEq, Nat.reduceAdd, Nat.reduceSub, Nat.reduceMul, Nat.reduceLeDiff, Nat.reduceLT, Nat.reduceEqDiff, Int.reduceBEq, Int.reduceBNe, Int.reduceLT, Int.reduceLE, Int.reduceAdd, Int.reduceSub, Int.reduceMul]
        first | done | rfl
      · intro m hm2
        simp only [lt_nat, bv, nv, e8, t8, k1, k2, hgs, hf1, hf2, hCd, hca, hcb, hla, hlb, hnb, hna, hle, ← List.map_take, num_beq, beq_self_eq_true, bne_self_eq_false, List.all_cons, List.all_nil, Bool.cond_self, scD, valA, if_true, VL, VB, BEq.rfl, V1, V2, V3, V4, V5, V6, V7, V8, V9, V10, VE, Nat.reduceBEq, Nat.reduceAdd, Nat.reduceSub, Nat.reduceMul, Nat.reduceLeDiff, Nat.reduceLT, Nat.reduceEqDiff, Int.reduceBEq, Int.reduceBNe, Int.reduceLT, Int.reduceLE, Int.reduceAdd, Int.reduceSub, Int.reduceMul]
        refine guardB.mk (fun h3 => ?_) (fun h3 => ?_) <;> simp only [h3, bv, nv, e8, t8, k1, k2, hgs, hf1, hf2, hCd, hca, hcb, hla, hlb, hnb, hna, hle, ← List.map_take, num_beq, beq_self_eq_true, bne_self_eq_false, List.all_cons, List.all_nil, Bool.cond_self, scD, valA, if_true, VL, VB, BEq.rfl, V1, V2, V3, V4, V5, V6, V7, V8, V9, V10, VE, Nat.reduceBEq, Nat.reduceAdd, Nat.reduceSub, Nat.reduceMul, Nat.reduceLeDiff, Nat.reduceLT, Nat.reduceEqDiff, Int.reduceBEq, Int.reduceBNe, Int.reduceLT, Int.reduceLE, Int.reduceAdd, Int.reduceSub, Int.reduceMul]
        · have hm' : m < C.length := by simpa using h3
          have hwm := wrap_nat (k := m) (by omega)
          obtain ⟨p, hp⟩ : ∃ p, C.getD m (0, 0) = p := ⟨_, rfl⟩
          obtain ⟨c1, c2, c3⟩ := hC p (by rw [← hp]; exact getD_mem hm')
          have z1 : decide ((p.1 : Int) < 0) = false := decide_eq_false (by omega)
          have z2 : decide (p.2 ≤ p.1) = false := decide_eq_false (by omega)
          have z3 : decide (L.length ≤ p.2) = false := decide_eq_false (by omega)
          have z4 : decide (a.getD p.1 0 = a.getD p.2 0) = false := decide_eq_false (hapA _ _ c1 c2 c3)
          have z5 : decide (b.getD p.1 0 = b.getD p.2 0) = false := decide_eq_false (hapB _ _ c1 c2 c3)
          have i1 : p.1 < a.length := by omega
          have i2 : p.2 < a.length := by omega
          have i3 : p.1 < b.length := by omega
          have i4 : p.2 < b.length := by omega
          have o1 : (1 : Int).toNat = 1 := rfl
          have o0 : (0 : Int).toNat = 0 := rfl
          simp only [getD_pair, pair_def, hp, hm', hwm, o0, o1, le_nat, z1, z2, z3, getD_num, num_def, i1, i2, i3, i4, int_beq, z4, z5, bv, nv, e8, t8, k1, k2, hgs, hf1, hf2, hCd, hca, hcb, hla, hlb, hnb, hna, hle, ← List.map_take, num_beq, beq_self_eq_true, bne_self_eq_false, List.all_cons, List.all_nil, Bool.cond_self, scD, valA, if_true, VL, VB, BEq.rfl, V1, V2, V3, V4, V5, V6, V7, V8, V9, V10, VE, Nat.reduceBEq, Nat.reduceAdd, Nat.reduceSub, Nat.reduceMul, Nat.reduceLeDiff, Nat.reduceLT, Nat.reduceEqDiff, Int.reduceBEq, Int.reduceBNe, Int.reduceLT, Int.reduceLE, Int.reduceAdd, Int.reduceSub, Int.reduceMul]
          refine ⟨Int.natCast_nonneg _, Int.natCast_nonneg _, Int.natCast_nonneg _, Int.natCast_nonneg _, Int.natCast_nonneg _, Int.natCast_nonneg _, m + 1, Enter.id ?_, by omega, by show C.length - (m + 1) < C.length - m; omega⟩
          simp only [bv, nv, e8, t8, k1, k2, hgs, hf1, hf2, hCd, hca, hcb, hla, hlb, hnb, hna, hle, ← List.map_take, num_beq, beq_self_eq_true, bne_self_eq_false, List.all_cons, List.all_nil, Bool.cond_self, scD, valA, if_true, VL, VB, BEq.rfl, V1, V2, V3, V4, V5, V6, V7, V8, V9, V10, VE, Nat.reduceBEq, Nat.reduceAdd, Nat.reduceSub, Nat.reduceMul, Nat.reduceLeDiff, Nat.reduceLT, Nat.reduceEqDiff, Int.reduceBEq, Int.reduceBNe, Int.reduceLT, Int.reduceLE, Int.reduceAdd, Int.reduceSub, Int.reduceMul]
        · refine ⟨(), Enter.id ?_, trivial⟩
          simp only [bv, nv, e8, t8, k1, k2, hgs, hf1, hf2, hCd, hca, hcb, hla, hlb, hnb, hna, hle, ← List.map_take, num_beq, beq_self_eq_true, bne_self_eq_false, List.all_cons, List.all_nil, Bool.cond_self, scD, valA, if_true, VL, VB, BEq.rfl, V1, V2, V3, V4, V5, V6, V7, V8, V9, V10, VE, Nat.reduceBEq, Nat.reduceAdd, Nat.reduceSub, Nat.reduceMul, Nat.reduceLeDiff, Nat.reduceLT, Nat.reduceEqDiff, Int.reduceBEq, Int.reduceBNe, Int.reduceLT, Int.reduceLE, Int.reduceAdd, Int.reduceSub, Int.reduceMul]
      · rintro _ _
        have g0 : decide ((0 : Int) < (C.length : Int)) = decide (0 < C.length) := lt_nat (a := 0)
        have y1 : decide (ap.length ≤ nb) = true := decide_eq_true hcl
        simp only [le_nat, y1, g0, bv, nv, e8, t8, k1, k2, hgs, hf1, hf2, hCd, hca, hcb, hla, hlb, hnb, hna, hle, ← List.map_take, num_beq, beq_self_eq_true, bne_self_eq_false, List.all_cons, List.all_nil, Bool.cond_self, scD, valA, if_true, VL, VB, BEq.rfl, V1, V2, V3, V4, V5, V6, V7, V8, V9, V10, VE, Nat.reduceBEq, Nat.reduceAdd, Nat.reduceSub, Nat.reduceMul, Nat.reduceLeDiff, Nat.reduceLT, Nat.reduceEqDiff, Int.reduceBEq, Int.reduceBNe, Int.reduceLT, Int.reduceLE, Int.reduceAdd, Int.reduceSub, Int.reduceMul]
        refine guardB.mk (fun h4 => ?_) (fun h4 => ?_) <;> simp only [h4, bv, nv, e8, t8, k1, k2, hgs, hf1, hf2, hCd, hca, hcb, hla, hlb, hnb, hna, hle, ← List.map_take, num_beq, beq_self_eq_true, bne_self_eq_false, List.all_cons, List.all_nil, Bool.cond_self, scD, valA, if_true, VL, VB, BEq.rfl, V1, V2, V3, V4, V5, V6, V7, V8, V9, V10, VE, Nat.reduceBEq, Nat.reduceAdd, Nat.reduceSub, Nat.reduceMul, Nat.reduceLeDiff, Nat.reduceLT, Nat.reduceEqDiff, Int.reduceBEq, Int.reduceBNe, Int.reduceLT, Int.reduceLE, Int.reduceAdd, Int.reduceSub, Int.reduceMul]
        · refine CallX.mk works_ok rfl ?_
          simp only [bv, nv, e8, t8, k1, k2, hgs, hf1, hf2, hCd, hca, hcb, hla, hlb, hnb, hna, hle, ← List.map_take, num_beq, beq_self_eq_true, bne_self_eq_false, List.all_cons, List.all_nil, Bool.cond_self, scD, valA, if_true, VL, VB, BEq.rfl, V1, V2, V3, V4, V5, V6, V7, V8, V9, V10, VE, Nat.reduceBEq, Nat.reduceAdd, Nat.reduceSub, Nat.reduceMul, Nat.reduceLeDiff, Nat.reduceLT, Nat.reduceEqDiff, Int.reduceBEq, Int.reduceBNe, Int.reduceLT, Int.reduceLE, Int.reduceAdd, Int.reduceSub, Int.reduceMul]
        · have hC1 : C = [] := List.length_eq_zero_iff.1 (by simp at h4; exact List.length_eq_zero_iff.2 h4)
          obtain ⟨q1, q2⟩ := hC0 hC1
          have q3 : ((nb : Int) == (bif decide ((1 : Int) < (L.length : Int)) then 1 else (L.length : Int))) = true := by
            rw [int_beq]
            apply decide_eq_true
            by_cases hL : 1 < L.length
            · rw [decide_eq_true (by omega), cond_true]; omega
            · rw [decide_eq_false (by omega), cond_false]; omega
          simp only [q3, bv, nv, e8, t8, k1, k2, hgs, hf1, hf2, hCd, hca, hcb, hla, hlb, hnb, hna, hle, ← List.map_take, num_beq, beq_self_eq_true, bne_self_eq_false, List.all_cons, List.all_nil, Bool.cond_self, scD, valA, if_true, VL, VB, BEq.rfl, V1, V2, V3, V4, V5, V6, V7, V8, V9, V10, VE, Nat.reduceBEq, Nat.reduceAdd, Nat.reduceSub, Nat.reduceMul, Nat.reduceLeDiff, Nat.reduceLT, Nat.reduceEqDiff, Int.reduceBEq, Int.reduceBNe, Int.reduceLT, Int.reduceLE, Int.reduceAdd, Int.reduceSub, Int.reduceMul]
          refine CallX.mk (many_ok a) rfl ?_
          have q4 : ((na : Int) == (nb : Int)) = true := by rw [int_beq]; exact decide_eq_true (by omega)
          simp only [q4, bv, nv, e8, t8, k1, k2, hgs, hf1, hf2, hCd, hca, hcb, hla, hlb, hnb, hna, hle, ← List.map_take, num_beq, beq_self_eq_true, bne_self_eq_false, List.all_cons, List.all_nil, Bool.cond_self, scD, valA, if_true, VL, VB, BEq.rfl, V1, V2, V3, V4, V5, V6, V7, V8, V9, V10, VE, Nat.reduceBEq, Nat.reduceAdd, Nat.reduceSub, Nat.reduceMul, Nat.reduceLeDiff, Nat.reduceLT, Nat.reduceEqDiff, Int.reduceBEq, Int.reduceBNe, Int.reduceLT, Int.reduceLE, Int.reduceAdd, Int.reduceSub, Int.reduceMul]
          refine CallX.mk works_ok rfl ?_
          simp only [bv, nv, e8, t8, k1, k2, hgs, hf1, hf2, hCd, hca, hcb, hla, hlb, hnb, hna, hle, ← List.map_take, num_beq, beq_self_eq_true, bne_self_eq_false, List.all_cons, List.all_nil, Bool.cond_self, scD, valA, if_true, VL, VB, BEq.rfl, V1, V2, V3, V4, V5, V6, V7, V8, V9, V10, VE, Nat.reduceBEq, Nat.reduceAdd, Nat.reduceSub, Nat.reduceMul, Nat.reduceLeDiff, Nat.reduceLT, Nat.reduceEqDiff, Int.reduceBEq, Int.reduceBNe, Int.reduceLT, Int.reduceLE, Int.reduceAdd, Int.reduceSub, Int.reduceMul]
  · have hx0 : x.take 8 = x := List.take_of_length_le (by simp at h; omega)
    rw [hx0] at hmade
    refine CallX.mk hmade rfl ?_
    simp only [bv, nv, e8, t8, k1, k2, hgs, hf1, hf2, hCd, hca, hcb, hla, hlb, hnb, hna, hle, ← List.map_take, num_beq, beq_self_eq_true, bne_self_eq_false, List.all_cons, List.all_nil, Bool.cond_self, scD, valA, if_true, VL, VB, BEq.rfl, V1, V2, V3, V4, V5, V6, V7, V8, V9, V10, VE, Nat.reduceBEq, Nat.reduceAdd, Nat.reduceSub, Nat.reduceMul, Nat.reduceLeDiff, Nat.reduceLT, Nat.reduceEqDiff, Int.reduceBEq, Int.reduceBNe, Int.reduceLT, Int.reduceLE, Int.reduceAdd, Int.reduceSub, Int.reduceMul]
    refine CallX.mk (Ok.vals (greedy_ok L hb)) rfl ?_
    simp only [bv, nv, e8, t8, k1, k2, hgs, hf1, hf2, hCd, hca, hcb, hla, hlb, hnb, hna, hle, ← List.map_take, num_beq, beq_self_eq_true, bne_self_eq_false, List.all_cons, List.all_nil, Bool.cond_self, scD, valA, if_true, VL, VB, BEq.rfl, V1, V2, V3, V4, V5, V6, V7, V8, V9, V10, VE, Nat.reduceBEq, Nat.reduceAdd, Nat.reduceSub, Nat.reduceMul, Nat.reduceLeDiff, Nat.reduceLT, Nat.reduceEqDiff, Int.reduceBEq, Int.reduceBNe, Int.reduceLT, Int.reduceLE, Int.reduceAdd, Int.reduceSub, Int.reduceMul]
    refine CallX.mk (fewest_ok L hb) rfl ?_
    simp only [bv, nv, e8, t8, k1, k2, hgs, hf1, hf2, hCd, hca, hcb, hla, hlb, hnb, hna, hle, ← List.map_take, num_beq, beq_self_eq_true, bne_self_eq_false, List.all_cons, List.all_nil, Bool.cond_self, scD, valA, if_true, VL, VB, BEq.rfl, V1, V2, V3, V4, V5, V6, V7, V8, V9, V10, VE, Nat.reduceBEq, Nat.reduceAdd, Nat.reduceSub, Nat.reduceMul, Nat.reduceLeDiff, Nat.reduceLT, Nat.reduceEqDiff, Int.reduceBEq, Int.reduceBNe, Int.reduceLT, Int.reduceLE, Int.reduceAdd, Int.reduceSub, Int.reduceMul]
    refine CallX.mk (Ok.vals (conflicts_ok L)) rfl ?_
    simp only [bv, nv, e8, t8, k1, k2, hgs, hf1, hf2, hCd, hca, hcb, hla, hlb, hnb, hna, hle, ← List.map_take, num_beq, beq_self_eq_true, bne_self_eq_false, List.all_cons, List.all_nil, Bool.cond_self, scD, valA, if_true, VL, VB, BEq.rfl, V1, V2, V3, V4, V5, V6, V7, V8, V9, V10, VE, Nat.reduceBEq, Nat.reduceAdd, Nat.reduceSub, Nat.reduceMul, Nat.reduceLeDiff, Nat.reduceLT, Nat.reduceEqDiff, Int.reduceBEq, Int.reduceBNe, Int.reduceLT, Int.reduceLE, Int.reduceAdd, Int.reduceSub, Int.reduceMul]
    refine CallX.mk (labelled_ok a L.length) rfl ?_
    simp only [bv, nv, e8, t8, k1, k2, hgs, hf1, hf2, hCd, hca, hcb, hla, hlb, hnb, hna, hle, ← List.map_take, num_beq, beq_self_eq_true, bne_self_eq_false, List.all_cons, List.all_nil, Bool.cond_self, scD, valA, if_true, VL, VB, BEq.rfl, V1, V2, V3, V4, V5, V6, V7, V8, V9, V10, VE, Nat.reduceBEq, Nat.reduceAdd, Nat.reduceSub, Nat.reduceMul, Nat.reduceLeDiff, Nat.reduceLT, Nat.reduceEqDiff, Int.reduceBEq, Int.reduceBNe, Int.reduceLT, Int.reduceLE, Int.reduceAdd, Int.reduceSub, Int.reduceMul]
    refine CallX.mk (labelled_ok b L.length) rfl ?_
    simp only [bv, nv, e8, t8, k1, k2, hgs, hf1, hf2, hCd, hca, hcb, hla, hlb, hnb, hna, hle, ← List.map_take, num_beq, beq_self_eq_true, bne_self_eq_false, List.all_cons, List.all_nil, Bool.cond_self, scD, valA, if_true, VL, VB, BEq.rfl, V1, V2, V3, V4, V5, V6, V7, V8, V9, V10, VE, Nat.reduceBEq, Nat.reduceAdd, Nat.reduceSub, Nat.reduceMul, Nat.reduceLeDiff, Nat.reduceLT, Nat.reduceEqDiff, Int.reduceBEq, Int.reduceBNe, Int.reduceLT, Int.reduceLE, Int.reduceAdd, Int.reduceSub, Int.reduceMul]
    refine CallX.mk (many_ok b) rfl ?_
    simp only [bv, nv, e8, t8, k1, k2, hgs, hf1, hf2, hCd, hca, hcb, hla, hlb, hnb, hna, hle, ← List.map_take, num_beq, beq_self_eq_true, bne_self_eq_false, List.all_cons, List.all_nil, Bool.cond_self, scD, valA, if_true, VL, VB, BEq.rfl, V1, V2, V3, V4, V5, V6, V7, V8, V9, V10, VE, Nat.reduceBEq, Nat.reduceAdd, Nat.reduceSub, Nat.reduceMul, Nat.reduceLeDiff, Nat.reduceLT, Nat.reduceEqDiff, Int.reduceBEq, Int.reduceBNe, Int.reduceLT, Int.reduceLE, Int.reduceAdd, Int.reduceSub, Int.reduceMul]
    refine CallX.mk (many_ok a) rfl ?_
    simp only [bv, nv, e8, t8, k1, k2, hgs, hf1, hf2, hCd, hca, hcb, hla, hlb, hnb, hna, hle, ← List.map_take, num_beq, beq_self_eq_true, bne_self_eq_false, List.all_cons, List.all_nil, Bool.cond_self, scD, valA, if_true, VL, VB, BEq.rfl, V1, V2, V3, V4, V5, V6, V7, V8, V9, V10, VE, Nat.reduceBEq, Nat.reduceAdd, Nat.reduceSub, Nat.reduceMul, Nat.reduceLeDiff, Nat.reduceLT, Nat.reduceEqDiff, Int.reduceBEq, Int.reduceBNe, Int.reduceLT, Int.reduceLE, Int.reduceAdd, Int.reduceSub, Int.reduceMul]
    refine LoopVC.cut (Y := Nat) (Z := Unit) 0 (fun i => i ≤ L.length) (fun i => ⟨[(3, .c (corrs L)), (4, .c (nums a)), (6, .c (nums b)), (7, .c (.sc (.int .i64 nb))), (9, .c (.sl (C.map pairD))), (11, .osl 1000 0), (12, .c (.sc (.int .i64 i)))], [(1000, .arr 3 0 ((apartTo C i).map natN))]⟩) (fun i => L.length - i)
      (fun _ => True) (fun _ => ⟨[(3, .c (corrs L)), (4, .c (nums a)), (6, .c (nums b)), (7, .c (.sc (.int .i64 nb))), (9, .c (.sl (C.map pairD))), (11, .osl 1000 0)], [(1000, .arr 3 0 ((apartTo C L.length).map natN))]⟩) ⟨0, Enter.mk [(11, (1000, 3))] [] [] ?_, by omega⟩ ?_ ?_
    · simp only [apartTo, List.map_nil, Option.isSome_some, bv, nv, e8, t8, k1, k2, hgs, hf1, hf2, hCd, hca, hcb, hla, hlb, hnb, hna, hle, ← List.map_take, num_beq, beq_self_eq_true, bne_self_eq_false, List.all_cons, List.all_nil, Bool.cond_self, scD, valA, if_true, VL, VB, BEq.rfl, V1, V2, V3, V4, V5, V6, V7, V8, V9, V10, VE, Nat.reduceBEq, Nat.reduceAdd, Nat.reduceSub, Nat.reduceMul, Nat.reduceLeDiff, Nat.reduceLT, Nat.reduceEqDiff, Int.reduceBEq, Int.reduceBNe, Int.reduceLT, Int.reduceLE, Int.reduceAdd, Int.reduceSub, Int.reduceMul]
      rfl
    · intro i hi
      have hap := apartTo_le C i
      have has : apartTo C (i + 1) = if allConf C (apartTo C i) i (apartTo C i).length then apartTo C i ++ [i] else apartTo C i := rfl
      generalize hapd : apartTo C i = ap at hap has ⊢
      simp only [lt_nat, bv, nv, e8, t8, k1, k2, hgs, hf1, hf2, hCd, hca, hcb, hla, hlb, hnb, hna, hle, ← List.map_take, num_beq, beq_self_eq_true, bne_self_eq_false, List.all_cons, List.all_nil, Bool.cond_self, scD, valA, if_true, VL, VB, BEq.rfl, V1, V2, V3, V4, V5, V6, V7, V8, V9, V10, VE, Nat.reduceBEq, Nat.reduceAdd, Nat.reduceSub, Nat.reduceMul, Nat.reduceLeDiff, Nat.reduceLT, Nat.reduceEqDiff, Int.reduceBEq, Int.reduceBNe, Int.reduceLT, Int.reduceLE, Int.reduceAdd, Int.reduceSub, Int.reduceMul]
      refine guardB.mk (fun h1 => ?_) (fun h1 => ?_) <;> simp only [h1, bv, nv, e8, t8, k1, k2, hgs, hf1, hf2, hCd, hca, hcb, hla, hlb, hnb, hna, hle, ← List.map_take, num_beq, beq_self_eq_true, bne_self_eq_false, List.all_cons, List.all_nil, Bool.cond_self, scD, valA, if_true, VL, VB, BEq.rfl, V1, V2, V3, V4, V5, V6, V7, V8, V9, V10, VE, Nat.reduceBEq, Nat.reduceAdd, Nat.reduceSub, Nat.reduceMul, Nat.reduceLeDiff, Nat.reduceLT, Nat.reduceEqDiff, Int.reduceBEq, Int.reduceBNe, Int.reduceLT, Int.reduceLE, Int.reduceAdd, Int.reduceSub, Int.reduceMul]
      · have hi' : i < L.length := by simpa using h1
        have hwi := wrap_nat (k := i) (by omega)
        refine LoopVC.cut (Y := Nat) (Z := Unit) 2 (fun k => k ≤ ap.length) (fun k => ⟨[(3, .c (corrs L)), (4, .c (nums a)), (6, .c (nums b)), (7, .c (.sc (.int .i64 nb))), (9, .c (.sl (C.map pairD))), (11, .osl 1000 0), (12, .c (.sc (.int .i64 i))), (13, .c (.sc (.bool (allConf C ap i k)))), (14, .c (.sc (.int .i64 k)))], [(1000, .arr 3 0 (ap.map natN))]⟩) (fun k => ap.length - k)
          (fun _ => True) (fun _ => ⟨[(3, .c (corrs L)), (4, .c (nums a)), (6, .c (nums b)), (7, .c (.sc (.int .i64 nb))), (9, .c (.sl (C.map pairD))), (11, .osl 1000 0), (12, .c (.sc (.int .i64 i))), (13, .c (.sc (.bool (allConf C ap i ap.length))))], [(1000, .arr 3 0 (ap.map natN))]⟩) ⟨0, Enter.id ?_, by omega⟩ ?_ ?_
        · simp only [allConf, List.take_zero, List.all_nil, lt_nat, hwi, bv, nv, e8, t8, k1, k2, hgs, hf1, hf2, hCd, hca, hcb, hla, hlb, hnb, hna, hle, ← List.map_take, num_beq, beq_self_eq_true, bne_self_eq_false, List.all_cons, List.all_nil, Bool.cond_self, scD, valA, if_true, VL, VB, BEq.rfl, V1, V2, V3, V4, V5, V6, V7, V8, V9, V10, VE, Nat.reduceBEq, Nat.reduceAdd, Nat.reduceSub, Nat.reduceMul, Nat.reduceLeDiff, Nat.reduceLT, Nat.reduceEqDiff, Int.reduceBEq, Int.reduceBNe, Int.reduceLT, Int.reduceLE, Int.reduceAdd, Int.reduceSub, Int.reduceMul]
          first | done | exact ⟨rfl, rfl⟩ | rfl
        · intro k hk
          have hcs := fun h => allConf_succ (C := C) (ap := ap) (i := i) (n := k) h
          generalize hac : allConf C ap i k = ac at hcs ⊢
          simp only [lt_nat, hwi, bv, nv, e8, t8, k1, k2, hgs, hf1, hf2, hCd, hca, hcb, hla, hlb, hnb, hna, hle, ← List.map_take, num_beq, beq_self_eq_true, bne_self_eq_false, List.all_cons, List.all_nil, Bool.cond_self, scD, valA, if_true, VL, VB, BEq.rfl, V1, V2, V3, V4, V5, V6, V7, V8, V9, V10, VE, Nat.reduceBEq, Nat.reduceAdd, Nat.reduceSub, Nat.reduceMul, Nat.reduceLeDiff, Nat.reduceLT, Nat.reduceEqDiff, Int.reduceBEq, Int.reduceBNe, Int.reduceLT, Int.reduceLE, Int.reduceAdd, Int.reduceSub, Int.reduceMul]
          refine guardB.mk (fun h2 => ?_) (fun h2 => ?_) <;> simp only [h2, lt_nat, hwi, bv, nv, e8, t8, k1, k2, hgs, hf1, hf2, hCd, hca, hcb, hla, hlb, hnb, hna, hle, ← List.map_take, num_beq, beq_self_eq_true, bne_self_eq_false, List.all_cons, List.all_nil, Bool.cond_self, scD, valA, if_true, VL, VB, BEq.rfl, V1, V2, V3, V4, V5, V6, V7, V8, V9, V10, VE, Nat.reduceBEq, Nat.reduceAdd, Nat.reduceSub, Nat.reduceMul, Nat.reduceLeDiff, Nat.reduceLT, Nat.reduceEqDiff, Int.reduceBEq, Int.reduceBNe, Int.reduceLT, Int.reduceLE, Int.reduceAdd, Int.reduceSub, Int.reduceMul]
          · have hk' : k < ap.length := by simpa using h2
            have hcs := hcs hk'
            have hwk := wrap_nat (k := k) (by omega)
            obtain ⟨q, hq⟩ : ∃ q, ap.getD k 0 = q := ⟨_, rfl⟩
            rw [hq] at hcs
            refine LoopVC.cut (Y := Nat) (Z := Unit) 4 (fun m => m ≤ C.length) (fun m => ⟨[(3, .c (corrs L)), (4, .c (nums a)), (6, .c (nums b)), (7, .c (.sc (.int .i64 nb))), (9, .c (.sl (C.map pairD))), (11, .osl 1000 0), (12, .c (.sc (.int .i64 i))), (13, .c (.sc (.bool ac))), (14, .c (.sc (.int .i64 k))), (15, .c (.sc (.bool (isConf C q i m)))), (16, .c (.sc (.int .i64 m)))], [(1000, .arr 3 0 (ap.map natN))]⟩) (fun m => C.length - m)
              (fun _ => True) (fun _ => ⟨[(3, .c (corrs L)), (4, .c (nums a)), (6, .c (nums b)), (7, .c (.sc (.int .i64 nb))), (9, .c (.sl (C.map pairD))), (11, .osl 1000 0), (12, .c (.sc (.int .i64 i))), (13, .c (.sc (.bool ac))), (14, .c (.sc (.int .i64 k))), (15, .c (.sc (.bool (isConf C q i C.length))))], [(1000, .arr 3 0 (ap.map natN))]⟩) ⟨0, Enter.id ?_, by omega⟩ ?_ ?_
            · simp only [isConf, List.take_zero, List.any_nil, getD_nat, nat_def, getD_pair, pair_def, pair_eq, hk', hq, hwk, lt_nat, hwi, bv, nv, e8, t8, k1, k2, hgs, hf1, hf2, hCd, hca, hcb, hla, hlb, hnb, hna, hle, ← List.map_take, num_beq, beq_self_eq_true, bne_self_eq_false, List.all_cons, List.all_nil, Bool.cond_self, scD, valA, if_true, VL, VB, BEq.rfl, V1, V2, V3, V4, V5, V6, V7, V8, V9, V10, VE, Nat.reduceBEq, Nat.reduceAdd, Nat.reduceSub, Nat.reduceMul, Nat.reduceLeDiff, Nat.reduceLT, Nat.reduceEqDiff, Int.reduceBEq, Int.reduceBNe, Int.reduceLT, Int.reduceLE, Int.reduceAdd, Int.reduceSub, Int.reduceMul]
              first | done | exact ⟨rfl, rfl⟩ | rfl
            · intro m hm2
              have his := fun h => isConf_succ (C := C) (k := q) (i := i) (n := m) h
              generalize hic : isConf C q i m = ic at his ⊢
              simp only [getD_nat, nat_def, getD_pair, pair_def, pair_eq, hk', hq, hwk, lt_nat, hwi, bv, nv, e8, t8, k1, k2, hgs, hf1, hf2, hCd, hca, hcb, hla, hlb, hnb, hna, hle, ← List.map_take, num_beq, beq_self_eq_true, bne_self_eq_false, List.all_cons, List.all_nil, Bool.cond_self, scD, valA, if_true, VL, VB, BEq.rfl, V1, V2, V3, V4, V5, V6, V7, V8, V9, V10, VE, Nat.reduceBEq, Nat.reduceAdd, Nat.reduceSub, Nat.reduceMul, Nat.reduceLeDiff, Nat.reduceLT, Nat.reduceEqDiff, Int.reduceBEq, Int.reduceBNe, Int.reduceLT, Int.reduceLE, Int.reduceAdd, Int.reduceSub, Int.reduceMul]
              refine guardB.mk (fun h3 => ?_) (fun h3 => ?_) <;> simp only [h3, getD_nat, nat_def, getD_pair, pair_def, pair_eq, hk', hq, hwk, lt_nat, hwi, bv, nv, e8, t8, k1, k2, hgs, hf1, hf2, hCd, hca, hcb, hla, hlb, hnb, hna, hle, ← List.map_take, num_beq, beq_self_eq_true, bne_self_eq_false, List.all_cons, List.all_nil, Bool.cond_self, scD, valA, if_true, VL, VB, BEq.rfl, V1, V2, V3, V4, V5, V6, V7, V8, V9, V10, VE, Nat.reduceBEq, Nat.reduceAdd, Nat.reduceSub, Nat.reduceMul, Nat.reduceLeDiff, Nat.reduceLT, Nat.reduceEqDiff, Int.reduceBEq, Int.reduceBNe, Int.reduceLT, Int.reduceLE, Int.reduceAdd, Int.reduceSub, Int.reduceMul]
              · have hm' : m < C.length := by simpa using h3
                have his := his hm'
                have hwm := wrap_nat (k := m) (by omega)
                refine guardB.mk (fun h4 => ?_) (fun h4 => ?_) <;> simp only [h4, hm', hwm, getD_nat, nat_def, getD_pair, pair_def, pair_eq, hk', hq, hwk, lt_nat, hwi, bv, nv, e8, t8, k1, k2, hgs, hf1, hf2, hCd, hca, hcb, hla, hlb, hnb, hna, hle, ← List.map_take, num_beq, beq_self_eq_true, bne_self_eq_false, List.all_cons, List.all_nil, Bool.cond_self, scD, valA, if_true, VL, VB, BEq.rfl, V1, V2, V3, V4, V5, V6, V7, V8, V9, V10, VE, Nat.reduceBEq, Nat.reduceAdd, Nat.reduceSub, Nat.reduceMul, Nat.reduceLeDiff, Nat.reduceLT, Nat.reduceEqDiff, Int.reduceBEq, Int.reduceBNe, Int.reduceLT, Int.reduceLE, Int.reduceAdd, Int.reduceSub, Int.reduceMul]
                · rw [h4, Bool.true_or] at his
                  refine ⟨m + 1, Enter.id ?_, by omega, by show C.length - (m + 1) < C.length - m; omega⟩
                  simp only [his, hwm, getD_nat, nat_def, getD_pair, pair_def, pair_eq, hk', hq, hwk, lt_nat, hwi, bv, nv, e8, t8, k1, k2, hgs, hf1, hf2, hCd, hca, hcb, hla, hlb, hnb, hna, hle, ← List.map_take, num_beq, beq_self_eq_true, bne_self_eq_false, List.all_cons, List.all_nil, Bool.cond_self, scD, valA, if_true, VL, VB, BEq.rfl, V1, V2, V3, V4, V5, V6, V7, V8, V9, V10, VE, Nat.reduceBEq, Nat.reduceAdd, Nat.reduceSub, Nat.reduceMul, Nat.reduceLeDiff, Nat.reduceLT, Nat.reduceEqDiff, Int.reduceBEq, Int.reduceBNe, Int.reduceLT, Int.reduceLE, Int.reduceAdd, Int.reduceSub, Int.reduceMul]
                · rw [h4, Bool.false_or] at his
                  refine ⟨Int.natCast_nonneg m, Int.natCast_nonneg k, m + 1, Enter.id ?_, by omega, by show C.length - (m + 1) < C.length - m; omega⟩
                  simp only [his, hwm, getD_nat, nat_def, getD_pair, pair_def, pair_eq, hk', hq, hwk, lt_nat, hwi, bv, nv, e8, t8, k1, k2, hgs, hf1, hf2, hCd, hca, hcb, hla, hlb, hnb, hna, hle, ← List.map_take, num_beq, beq_self_eq_true, bne_self_eq_false, List.all_cons, List.all_nil, Bool.cond_self, scD, valA, if_true, VL, VB, BEq.rfl, V1, V2, V3, V4, V5, V6, V7, V8, V9, V10, VE, Nat.reduceBEq, Nat.reduceAdd, Nat.reduceSub, Nat.reduceMul, Nat.reduceLeDiff, Nat.reduceLT, Nat.reduceEqDiff, Int.reduceBEq, Int.reduceBNe, Int.reduceLT, Int.reduceLE, Int.reduceAdd, Int.reduceSub, Int.reduceMul]
              · have hme : m = C.length := by
                  have : ¬ m < C.length := by simpa using h3
                  omega
                subst hme
                refine ⟨(), Enter.id ?_, trivial⟩
                simp only [hic, getD_nat, nat_def, getD_pair, pair_def, pair_eq, hk', hq, hwk, lt_nat, hwi, bv, nv, e8, t8, k1, k2, hgs, hf1, hf2, hCd, hca, hcb, hla, hlb, hnb, hna, hle, ← List.map_take, num_beq, beq_self_eq_true, bne_self_eq_false, List.all_cons, List.all_nil, Bool.cond_self, scD, valA, if_true, VL, VB, BEq.rfl, V1, V2, V3, V4, V5, V6, V7, V8, V9, V10, VE, Nat.reduceBEq, Nat.reduceAdd, Nat.reduceSub, Nat.reduceMul, Nat.reduceLeDiff, Nat.reduceLT, Nat.reduceEqDiff, Int.reduceBEq, Int.reduceBNe, Int.reduceLT, Int.reduceLE, Int.reduceAdd, Int.reduceSub, Int.reduceMul]
            · rintro _ _
              simp only [getD_nat, nat_def, getD_pair, pair_def, pair_eq, hk', hq, hwk, lt_nat, hwi, bv, nv, e8, t8, k1, k2, hgs, hf1, hf2, hCd, hca, hcb, hla, hlb, hnb, hna, hle, ← List.map_take, num_beq, beq_self_eq_true, bne_self_eq_false, List.all_cons, List.all_nil, Bool.cond_self, scD, valA, if_true, VL, VB, BEq.rfl, V1, V2, V3, V4, V5, V6, V7, V8, V9, V10, VE, Nat.reduceBEq, Nat.reduceAdd, Nat.reduceSub, Nat.reduceMul, Nat.reduceLeDiff, Nat.reduceLT, Nat.reduceEqDiff, Int.reduceBEq, Int.reduceBNe, Int.reduceLT, Int.reduceLE, Int.reduceAdd, Int.reduceSub, Int.reduceMul]
              refine guardB.mk (fun h4 => ?_) (fun h4 => ?_) <;> simp only [h4, getD_nat, nat_def, getD_pair, pair_def, pair_eq, hk', hq, hwk, lt_nat, hwi, bv, nv, e8, t8, k1, k2, hgs, hf1, hf2, hCd, hca, hcb, hla, hlb, hnb, hna, hle, ← List.map_take, num_beq, beq_self_eq_true, bne_self_eq_false, List.all_cons, List.all_nil, Bool.cond_self, scD, valA, if_true, VL, VB, BEq.rfl, V1, V2, V3, V4, V5, V6, V7, V8, V9, V10, VE, Nat.reduceBEq, Nat.reduceAdd, Nat.reduceSub, Nat.reduceMul, Nat.reduceLeDiff, Nat.reduceLT, Nat.reduceEqDiff, Int.reduceBEq, Int.reduceBNe, Int.reduceLT, Int.reduceLE, Int.reduceAdd, Int.reduceSub, Int.reduceMul]
              · rw [h4, Bool.true_and] at hcs
                refine ⟨k + 1, Enter.id ?_, by omega, by show ap.length - (k + 1) < ap.length - k; omega⟩
                simp only [hcs, getD_nat, nat_def, getD_pair, pair_def, pair_eq, hk', hq, hwk, lt_nat, hwi, bv, nv, e8, t8, k1, k2, hgs, hf1, hf2, hCd, hca, hcb, hla, hlb, hnb, hna, hle, ← List.map_take, num_beq, beq_self_eq_true, bne_self_eq_false, List.all_cons, List.all_nil, Bool.cond_self, scD, valA, if_true, VL, VB, BEq.rfl, V1, V2, V3, V4, V5, V6, V7, V8, V9, V10, VE, Nat.reduceBEq, Nat.reduceAdd, Nat.reduceSub, Nat.reduceMul, Nat.reduceLeDiff, Nat.reduceLT, Nat.reduceEqDiff, Int.reduceBEq, Int.reduceBNe, Int.reduceLT, Int.reduceLE, Int.reduceAdd, Int.reduceSub, Int.reduceMul]
              · rw [h4, Bool.false_and] at hcs
                refine ⟨k + 1, Enter.id ?_, by omega, by show ap.length - (k + 1) < ap.length - k; omega⟩
                simp only [hcs, getD_nat, nat_def, getD_pair, pair_def, pair_eq, hk', hq, hwk, lt_nat, hwi, bv, nv, e8, t8, k1, k2, hgs, hf1, hf2, hCd, hca, hcb, hla, hlb, hnb, hna, hle, ← List.map_take, num_beq, beq_self_eq_true, bne_self_eq_false, List.all_cons, List.all_nil, Bool.cond_self, scD, valA, if_true, VL, VB, BEq.rfl, V1, V2, V3, V4, V5, V6, V7, V8, V9, V10, VE, Nat.reduceBEq, Nat.reduceAdd, Nat.reduceSub, Nat.reduceMul, Nat.reduceLeDiff, Nat.reduceLT, Nat.reduceEqDiff, Int.reduceBEq, Int.reduceBNe, Int.reduceLT, Int.reduceLE, Int.reduceAdd, Int.reduceSub, Int.reduceMul]
          · have hke : k = ap.length := by
              have : ¬ k < ap.length := by simpa using h2
              omega
            subst hke
            refine ⟨(), Enter.id ?_, trivial⟩
            simp only [hac, lt_nat, hwi, bv, nv, e8, t8, k1, k2, hgs, hf1, hf2, hCd, hca, hcb, hla, hlb, hnb, hna, hle, ← List.map_take, num_beq, beq_self_eq_true, bne_self_eq_false, List.all_cons, List.all_nil, Bool.cond_self, scD, valA, if_true, VL, VB, BEq.rfl, V1, V2, V3, V4, V5, V6, V7, V8, V9, V10, VE, Nat.reduceBEq, Nat.reduceAdd, Nat.reduceSub, Nat.reduceMul, Nat.reduceLeDiff, Nat.reduceLT, Nat.reduceEqDiff, Int.reduceBEq, Int.reduceBNe, Int.reduceLT, Int.reduceLE, Int.reduceAdd, Int.reduceSub, Int.reduceMul]
        · rintro _ _
          simp only [lt_nat, hwi, bv, nv, e8, t8, k1, k2, hgs, hf1, hf2, hCd, hca, hcb, hla, hlb, hnb, hna, hle, ← List.map_take, num_beq, beq_self_eq_true, bne_self_eq_false, List.all_cons, List.all_nil, Bool.cond_self, scD, valA, if_true, VL, VB, BEq.rfl, V1, V2, V3, V4, V5, V6, V7, V8, V9, V10, VE, Nat.reduceBEq, Nat.reduceAdd, Nat.reduceSub, Nat.reduceMul, Nat.reduceLeDiff, Nat.reduceLT, Nat.reduceEqDiff, Int.reduceBEq, Int.reduceBNe, Int.reduceLT, Int.reduceLE, Int.reduceAdd, Int.reduceSub, Int.reduceMul]
          refine guardB.mk (fun h4 => ?_) (fun h4 => ?_) <;> simp only [h4, if_true, Bool.false_eq_true, if_false] at has <;> simp only [lt_nat, hwi, bv, nv, e8, t8, k1, k2, hgs, hf1, hf2, hCd, hca, hcb, hla, hlb, hnb, hna, hle, ← List.map_take, num_beq, beq_self_eq_true, bne_self_eq_false, List.all_cons, List.all_nil, Bool.cond_self, scD, valA, if_true, VL, VB, BEq.rfl, V1, V2, V3, V4, V5, V6, V7, V8, V9, V10, VE, Nat.reduceBEq, Nat.reduceAdd, Nat.reduceSub, Nat.reduceMul, Nat.reduceLeDiff, Nat.reduceLT, Nat.reduceEqDiff, Int.reduceBEq, Int.reduceBNe, Int.reduceLT, Int.reduceLE, Int.reduceAdd, Int.reduceSub, Int.reduceMul]
          · refine ⟨⟨by omega, allLen_one rfl⟩, i + 1, Enter.id ?_, by omega, by show L.length - (i + 1) < L.length - i; omega⟩
            simp only [has, List.map_append, nat_def, lt_nat, hwi, bv, nv, e8, t8, k1, k2, hgs, hf1, hf2, hCd, hca, hcb, hla, hlb, hnb, hna, hle, ← List.map_take, num_beq, beq_self_eq_true, bne_self_eq_false, List.all_cons, List.all_nil, Bool.cond_self, scD, valA, if_true, VL, VB, BEq.rfl, V1, V2, V3, V4, V5, V6, V7, V8, V9, V10, VE, Nat.reduceBEq, Nat.reduceAdd, Nat.reduceSub, Nat.reduceMul, Nat.reduceLeDiff, Nat.reduceLT, Nat.reduceEqDiff, Int.reduceBEq, Int.reduceBNe, Int.reduceLT, Int.reduceLE, Int.reduceAdd, Int.reduceSub, Int.reduceMul]
          · refine ⟨i + 1, Enter.id ?_, by omega, by show L.length - (i + 1) < L.length - i; omega⟩
            simp only [has, lt_nat, hwi, bv, nv, e8, t8, k1, k2, hgs, hf1, hf2, hCd, hca, hcb, hla, hlb, hnb, hna, hle, ← List.map_take, num_beq, beq_self_eq_true, bne_self_eq_false, List.all_cons, List.all_nil, Bool.cond_self, scD, valA, if_true, VL, VB, BEq.rfl, V1, V2, V3, V4, V5, V6, V7, V8, V9, V10, VE, Nat.reduceBEq, Nat.reduceAdd, Nat.reduceSub, Nat.reduceMul, Nat.reduceLeDiff, Nat.reduceLT, Nat.reduceEqDiff, Int.reduceBEq, Int.reduceBNe, Int.reduceLT, Int.reduceLE, Int.reduceAdd, Int.reduceSub, Int.reduceMul]
      · have hie : i = L.length := by
          have : ¬ i < L.length := by simpa using h1
          omega
        subst hie
        refine ⟨(), Enter.id ?_, trivial⟩
        simp only [hapd, bv, nv, e8, t8, k1, k2, hgs, hf1, hf2, hCd, hca, hcb, hla, hlb, hnb, hna, hle, ← List.map_take, num_beq, beq_self_eq_true, bne_self_eq_false, List.all_cons, List.all_nil, Bool.cond_self, scD, valA, if_true, VL, VB, BEq.rfl, V1, V2, V3, V4, V5, V6, V7, V8, V9, V10, VE, Nat.reduceBEq, Nat.reduceAdd, Nat.reduceSub, Nat.reduceMul, Nat.reduceLeDiff, Nat.reduceLT, Nat.reduceEqDiff, Int.reduceBEq, Int.reduceBNe, Int.reduceLT, Int.reduceLE, Int.reduceAdd, Int.reduceSub, Int.reduceMul]
    · rintro _ _
      have hap := apartTo_le C L.length
      generalize apartTo C L.length = ap at hcl hap ⊢
      simp only [bv, nv, e8, t8, k1, k2, hgs, hf1, hf2, hCd, hca, hcb, hla, hlb, hnb, hna, hle, ← List.map_take, num_beq, beq_self_eq_true, bne_self_eq_false, List.all_cons, List.all_nil, Bool.cond_self, scD, valA, if_true, VL, VB, BEq.rfl, V1, V2, V3, V4, V5, V6, V7, V8, V9, V10, VE, Nat.reduceBEq, Nat.reduceAdd, Nat.reduceSub, Nat.reduceMul, Nat.reduceLeDiff, Nat.reduceLT, Nat.reduceEqDiff, Int.reduceBEq, Int.reduceBNe, Int.reduceLT, Int.reduceLE, Int.reduceAdd, Int.reduceSub, Int.reduceMul]
      refine LoopVC.cut (Y := Nat) (Z := Unit) 6 (fun m => m ≤ C.length) (fun m => ⟨[(3, .c (corrs L)), (4, .c (nums a)), (6, .c (nums b)), (7, .c (.sc (.int .i64 nb))), (9, .c (.sl (C.map pairD))), (11, .osl 1000 0), (17, .c (.sc (.int .i64 m)))], [(1000, .arr 3 0 (ap.map natN))]⟩) (fun m => C.length - m)
        (fun _ => True) (fun _ => ⟨[(3, .c (corrs L)), (4, .c (nums a)), (6, .c (nums b)), (7, .c (.sc (.int .i64 nb))), (9, .c (.sl (C.map pairD))), (11, .osl 1000 0)], [(1000, .arr 3 0 (ap.map natN))]⟩) ⟨0, Enter.id ?_, by omega⟩ ?_ ?_
      · simp only [bv, nv, e8, t8, k1, k2, hgs, hf1, hf2, hCd, hca, hcb, hla, hlb, hnb, hna, hle, ← List.map_take, num_beq, beq_self_eq_true, bne_self_eq_false, List.all_cons, List.all_nil, Bool.cond_self, scD, valA, if_true, VL, VB, BEq.rfl, V1, V2, V3, V4, V5, V6, V7, V8, V9, V10, VE, Nat.reduceBEq, Nat.reduceAdd, Nat.reduceSub, Nat.reduceMul, Nat.reduceLeDiff, Nat.reduceLT, Nat.reduceEqDiff, Int.reduceBEq, Int.reduceBNe, Int.reduceLT, Int.reduceLE, Int.reduceAdd, Int.reduceSub, Int.reduceMul]
        first | done | rfl
      · intro m hm2
        simp only [lt_nat, bv, nv, e8, t8, k1, k2, hgs, hf1, hf2, hCd, hca, hcb, hla, hlb, hnb, hna, hle, ← List.map_take, num_beq, beq_self_eq_true, bne_self_eq_false, List.all_cons, List.all_nil, Bool.cond_self, scD, valA, if_true, VL, VB, BEq.rfl, V1, V2, V3, V4, V5, V6, V7, V8, V9, V10, VE, Nat.reduceBEq, Nat.reduceAdd, Nat.reduceSub, Nat.reduceMul, Nat.reduceLeDiff, Nat.reduceLT, Nat.reduceEqDiff, Int.reduceBEq, Int.reduceBNe, Int.reduceLT, Int.reduceLE, Int.reduceAdd, Int.reduceSub, Int.reduceMul]
        refine guardB.mk (fun h3 => ?_) (fun h3 => ?_) <;> simp only [h3, bv, nv, e8, t8, k1, k2, hgs, hf1, hf2, hCd, hca, hcb, hla, hlb, hnb, hna, hle, ← List.map_take, num_beq, beq_self_eq_true, bne_self_eq_false, List.all_cons, List.all_nil, Bool.cond_self, scD, valA, if_true, VL, VB, BEq.rfl, V1, V2, V3, V4, V5, V6, V7, V8, V9, V10, VE, Nat.reduceBEq, Nat.reduceAdd, Nat.reduceSub, Nat.reduceMul, Nat.reduceLeDiff, Nat.reduceLT, Nat.reduceEqDiff, Int.reduceBEq, Int.reduceBNe, Int.reduceLT, Int.reduceLE, Int.reduceAdd, Int.reduceSub, Int.reduceMul]
        · have hm' : m < C.length := by simpa using h3
          have hwm := wrap_nat (k := m) (by omega)
          obtain ⟨p, hp⟩ : ∃ p, C.getD m (0, 0) = p := ⟨_, rfl⟩
          obtain ⟨c1, c2, c3⟩ := hC p (by rw [← hp]; exact getD_mem hm')
          have z1 : decide ((p.1 : Int) < 0) = false := decide_eq_false (by omega)
          have z2 : decide (p.2 ≤ p.1) = false := decide_eq_false (by omega)
          have z3 : decide (L.length ≤ p.2) = false := decide_eq_false (by omega)
          have z4 : decide (a.getD p.1 0 = a.getD p.2 0) = false := decide_eq_false (hapA _ _ c1 c2 c3)
          have z5 : decide (b.getD p.1 0 = b.getD p.2 0) = false := decide_eq_false (hapB _ _ c1 c2 c3)
          have i1 : p.1 < a.length := by omega
          have i2 : p.2 < a.length := by omega
          have i3 : p.1 < b.length := by omega
          have i4 : p.2 < b.length := by omega
          have o1 : (1 : Int).toNat = 1 := rfl
          have o0 : (0 : Int).toNat = 0 := rfl
          simp only [getD_pair, pair_def, hp, hm', hwm, o0, o1, le_nat, z1, z2, z3, getD_num, num_def, i1, i2, i3, i4, int_beq, z4, z5, bv, nv, e8, t8, k1, k2, hgs, hf1, hf2, hCd, hca, hcb, hla, hlb, hnb, hna, hle, ← List.map_take, num_beq, beq_self_eq_true, bne_self_eq_false, List.all_cons, List.all_nil, Bool.cond_self, scD, valA, if_true, VL, VB, BEq.rfl, V1, V2, V3, V4, V5, V6, V7, V8, V9, V10, VE, Nat.reduceBEq, Nat.reduceAdd, Nat.reduceSub, Nat.reduceMul, Nat.reduceLeDiff, Nat.reduceLT, Nat.reduceEqDiff, Int.reduceBEq, Int.reduceBNe, Int.reduceLT, Int.reduceLE, Int.reduceAdd, Int.reduceSub, Int.reduceMul]
          refine ⟨Int.natCast_nonneg _, Int.natCast_nonneg _, Int.natCast_nonneg _, Int.natCast_nonneg _, Int.natCast_nonneg _, Int.natCast_nonneg _, m + 1, Enter.id ?_, by omega, by show C.length - (m + 1) < C.length - m; omega⟩
          simp only [bv, nv, e8, t8, k1, k2, hgs, hf1, hf2, hCd, hca, hcb, hla, hlb, hnb, hna, hle, ← List.map_take, num_beq, beq_self_eq_true, bne_self_eq_false, List.all_cons, List.all_nil, Bool.cond_self, scD, valA, if_true, VL, VB, BEq.rfl, V1, V2, V3, V4, V5, V6, V7, V8, V9, V10, VE, Nat.reduceBEq, Nat.reduceAdd, Nat.reduceSub, Nat.reduceMul, Nat.reduceLeDiff, Nat.reduceLT, Nat.reduceEqDiff, Int.reduceBEq, Int.reduceBNe, Int.reduceLT, Int.reduceLE, Int.reduceAdd, Int.reduceSub, Int.reduceMul]
        · refine ⟨(), Enter.id ?_, trivial⟩
          simp only [bv, nv, e8, t8, k1, k2, hgs, hf1, hf2, hCd, hca, hcb, hla, hlb, hnb, hna, hle, ← List.map_take, num_beq, beq_self_eq_true, bne_self_eq_false, List.all_cons, List.all_nil, Bool.cond_self, scD, valA, if_true, VL, VB, BEq.rfl, V1, V2, V3, V4, V5, V6, V7, V8, V9, V10, VE, Nat.reduceBEq, Nat.reduceAdd, Nat.reduceSub, Nat.reduceMul, Nat.reduceLeDiff, Nat.reduceLT, Nat.reduceEqDiff, Int.reduceBEq, Int.reduceBNe, Int.reduceLT, Int.reduceLE, Int.reduceAdd, Int.reduceSub, Int.reduceMul]
      · rintro _ _
        have g0 : decide ((0 : Int) < (C.length : Int)) = decide (0 < C.length) := lt_nat (a := 0)
        have y1 : decide (ap.length ≤ nb) = true := decide_eq_true hcl
        simp only [le_nat, y1, g0, bv, nv, e8, t8, k1, k2, hgs, hf1, hf2, hCd, hca, hcb, hla, hlb, hnb, hna, hle, ← List.map_take, num_beq, beq_self_eq_true, bne_self_eq_false, List.all_cons, List.all_nil, Bool.cond_self, scD, valA, if_true, VL, VB, BEq.rfl, V1, V2, V3, V4, V5, V6, V7, V8, V9, V10, VE, Nat.reduceBEq, Nat.reduceAdd, Nat.reduceSub, Nat.reduceMul, Nat.reduceLeDiff, Nat.reduceLT, Nat.reduceEqDiff, Int.reduceBEq, Int.reduceBNe, Int.reduceLT, Int.reduceLE, Int.reduceAdd, Int.reduceSub, Int.reduceMul]
        refine guardB.mk (fun h4 => ?_) (fun h4 => ?_) <;> simp only [h4, bv, nv, e8, t8, k1, k2, hgs, hf1, hf2, hCd, hca, hcb, hla, hlb, hnb, hna, hle, ← List.map_take, num_beq, beq_self_eq_true, bne_self_eq_false, List.all_cons, List.all_nil, Bool.cond_self, scD, valA, if_true, VL, VB, BEq.rfl, V1, V2, V3, V4, V5, V6, V7, V8, V9, V10, VE, Nat.reduceBEq, Nat.reduceAdd, Nat.reduceSub, Nat.reduceMul, Nat.reduceLeDiff, Nat.reduceLT, Nat.reduceEqDiff, Int.reduceBEq, Int.reduceBNe, Int.reduceLT, Int.reduceLE, Int.reduceAdd, Int.reduceSub, Int.reduceMul]
        · refine CallX.mk works_ok rfl ?_
          simp only [bv, nv, e8, t8, k1, k2, hgs, hf1, hf2, hCd, hca, hcb, hla, hlb, hnb, hna, hle, ← List.map_take, num_beq, beq_self_eq_true, bne_self_eq_false, List.all_cons, List.all_nil, Bool.cond_self, scD, valA, if_true, VL, VB, BEq.rfl, V1, V2, V3, V4, V5, V6, V7, V8, V9, V10, VE, Nat.reduceBEq, Nat.reduceAdd, Nat.reduceSub, Nat.reduceMul, Nat.reduceLeDiff, Nat.reduceLT, Nat.reduceEqDiff, Int.reduceBEq, Int.reduceBNe, Int.reduceLT, Int.reduceLE, Int.reduceAdd, Int.reduceSub, Int.reduceMul]
        · have hC1 : C = [] := List.length_eq_zero_iff.1 (by simp at h4; exact List.length_eq_zero_iff.2 h4)
          obtain ⟨q1, q2⟩ := hC0 hC1
          have q3 : ((nb : Int) == (bif decide ((1 : Int) < (L.length : Int)) then 1 else (L.length : Int))) = true := by
            rw [int_beq]
            apply decide_eq_true
            by_cases hL : 1 < L.length
            · rw [decide_eq_true (by omega), cond_true]; omega
            · rw [decide_eq_false (by omega), cond_false]; omega
          simp only [q3, bv, nv, e8, t8, k1, k2, hgs, hf1, hf2, hCd, hca, hcb, hla, hlb, hnb, hna, hle, ← List.map_take, num_beq, beq_self_eq_true, bne_self_eq_false, List.all_cons, List.all_nil, Bool.cond_self, scD, valA, if_true, VL, VB, BEq.rfl, V1, V2, V3, V4, V5, V6, V7, V8, V9, V10, VE, Nat.reduceBEq, Nat.reduceAdd, Nat.reduceSub, Nat.reduceMul, Nat.reduceLeDiff, Nat.reduceLT, Nat.reduceEqDiff, Int.reduceBEq, Int.reduceBNe, Int.reduceLT, Int.reduceLE, Int.reduceAdd, Int.reduceSub, Int.reduceMul]
          refine CallX.mk (many_ok a) rfl ?_
          have q4 : ((na : Int) == (nb : Int)) = true := by rw [int_beq]; exact decide_eq_true (by omega)
          simp only [q4, bv, nv, e8, t8, k1, k2, hgs, hf1, hf2, hCd, hca, hcb, hla, hlb, hnb, hna, hle, ← List.map_take, num_beq, beq_self_eq_true, bne_self_eq_false, List.all_cons, List.all_nil, Bool.cond_self, scD, valA, if_true, VL, VB, BEq.rfl, V1, V2, V3, V4, V5, V6, V7, V8, V9, V10, VE, Nat.reduceBEq, Nat.reduceAdd, Nat.reduceSub, Nat.reduceMul, Nat.reduceLeDiff, Nat.reduceLT, Nat.reduceEqDiff, Int.reduceBEq, Int.reduceBNe, Int.reduceLT, Int.reduceLE, Int.reduceAdd, Int.reduceSub, Int.reduceMul]
          refine CallX.mk works_ok rfl ?_
          simp only [bv, nv, e8, t8, k1, k2, hgs, hf1, hf2, hCd, hca, hcb, hla, hlb, hnb, hna, hle, ← List.map_take, num_beq, beq_self_eq_true, bne_self_eq_false, List.all_cons, List.all_nil, Bool.cond_self, scD, valA, if_true, VL, VB, BEq.rfl, V1, V2, V3, V4, V5, V6, V7, V8, V9, V10, VE, Nat.reduceBEq, Nat.reduceAdd, Nat.reduceSub, Nat.reduceMul, Nat.reduceLeDiff, Nat.reduceLT, Nat.reduceEqDiff, Int.reduceBEq, Int.reduceBNe, Int.reduceLT, Int.reduceLE, Int.reduceAdd, Int.reduceSub, Int.reduceMul]

end Go.Cp
namespace Go.Proofs.Ytiafkdnbfpfmiaa
open Go Go.Proofs Go.RowKit Go.ChangeShapes Go.WideShapes Go.ChangeAt Go.Vx Go.Cp

theorem compatAssigns_lifted (os : Os) (started : os.Started) (H : Type) (enc : TypeId × Value → H) :
    ReturnsInHanded {} Try.checked os 7 .any (Rows.compatAssignsSpec.pre6 enc Try.prog Try.f7 Rows.compatAssignsRow.domain false) (Rows.compatAssignsSpec.post enc Try.prog Try.f7 false true false false) := by
  refine law_lifted (m := 8) (tb := 4) os started H enc own laid (by kernel_rfl) Try.func7 rfl Try.underlying4 rfl ?_ (by kernel_rfl) (by kernel_rfl)
    (ChangeSpec.witness6 (enc := enc) (C := Try.checked) false ⟨#[], #[.slice none 0 0], []⟩ 8 (by kernel_rfl) (by kernel_rfl) (by kernel_rfl) (by kernel_rfl)) ?_
  · rw [Try.params7]
    intro ds hd
    match ds, hd with
    | [d1], _ => exact ⟨rfl, rfl, rfl⟩
  · rw [Try.params7]
    intro dss h
    match dss, h with
    | [x1], ⟨h1, _⟩ =>
      obtain ⟨x, rfl, hx⟩ := typed_u16s (m := 6) h1
      simp only [argsAV, argAV, Try.underlying50]
      exact assigns_law x hx

theorem compatAssigns_holds : Rows.CompatAssignsSaid :=
  OpenClaim.holds_of_wide 7 Try.f7 rfl rfl rfl rfl rfl rfl rfl ⟨rfl, rfl, rfl, rfl, rfl⟩ rfl rfl rfl rfl rfl (by kernel_rfl) Try.func7 (by kernel_rfl)
    (of_decide_eq_true (by kernel_rfl)) (by unfold Func.isWrapper; first | (rw [if_pos (by decide +kernel)]; kernel_rfl) | (rw [if_neg (by decide +kernel)]; exact ⟨rfl, rfl⟩))
    (fun os started H enc _ => compatAssigns_lifted os started H enc)
#print axioms compatAssigns_holds

end Go.Proofs.Ytiafkdnbfpfmiaa
