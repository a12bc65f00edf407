/-
  Tree: the law TreePruned. Conditions: none.
-/
import Derived.Test.YtiioldgdgfdjeaaMN
set_option linter.unusedVariables false
set_option linter.unusedSimpArgs false
set_option maxHeartbeats 16000000
set_option maxRecDepth 10000
namespace Go.Cp
open Go Go.Proofs Go.Vx

theorem typed_u64 {m : Nat} {x : List D} (h : Typed Try.prog (m + 1) 45 x) : ∃ n : Nat, x = u64D n ∧ n < 2 ^ 64 := by
  simp only [Typed, Try.underlying45, TypedK] at h
  obtain ⟨n, rfl, hn⟩ := h
  have h1 : 0 ≤ n ∧ n < 2 ^ 64 := by
    simp [Lit.wf, IntKind.min, IntKind.max, IntKind.bits, IntKind.signed] at hn
    omega
  exact ⟨n.toNat, by rw [u64D, Int.toNat_of_nonneg h1.1], by omega⟩
theorem sub_onep {k : Nat} (h : k < 64) : IntKind.u64.wrap (((2 ^ k : Nat) : Int) - 1) = ((2 ^ k - 1 : Nat) : Int) := by
  have h1 := pow_lt64 h
  have h2 := Nat.two_pow_pos k
  rw [wraps_u64 _ (by omega) (by omega)]
  omega
theorem small_left {t : List Node} {keep : List Int} (hs : Small t) : Small (left t keep) := fun r hr => by
  obtain ⟨v, hv, h1, rfl⟩ := left_onto hr
  rw [left_node hv h1]
  exact hs v hv
theorem find_name {t : List Node} (ht : okTree t = true) {v : Nat} (hv : v < t.length) : findV t (nameOf t v) = (v : Int) ∧ findE t (nameOf t v) = 0 := by
  have hnode := okTree_node ht hv
  simp only [okNode, Bool.and_eq_true] at hnode
  have hfr := hnode.2.2
  rw [fresh, List.all_eq_true] at hfr
  have hf := find_hit (t := t) (s := nameOf t v) hv (fun j hj => of_decide_eq_true (hfr j (by simpa using hj))) rfl
  rw [findV, findE, if_pos ht, if_pos ht, hf, if_neg (by omega), if_neg (by omega)]
  exact ⟨rfl, rfl⟩
/-- what the law asks of the tree that is left -/
structure LeftOk (t U : List Node) (K : List Int) (w : Nat) : Prop where
  ok : okTree U = true
  small : Small U
  pv : pruneV t K = U
  pe : pruneE t K = 0
  cnt : (leavesOf U).length = K.length
  leaf : ∀ k, k < K.length → ∃ a b : Nat, (leavesOf U).getD k 0 = (a : Int) ∧ a < U.length ∧ K.getD (K.length - 1 - k) 0 = (b : Int) ∧ b < t.length ∧ (U.getD a Node.zero).name = (t.getD b Node.zero).name
  node : ∀ r, r < U.length → ∃ v : Nat, v < t.length ∧ findV t (U.getD r Node.zero).name = (v : Int) ∧ findE t (U.getD r Node.zero).name = 0 ∧ (kids U (r : Nat)).length ≠ 1 ∧ sqzN (clade t v) w = clade U r
  cover : ∀ v, v < t.length → sqzN (clade t v) w ≠ 0 → ∃ r, r < U.length ∧ clade U r = sqzN (clade t v) w
theorem left_all {t : List Node} {w : Nat} (ht : okTree t = true) (hs : Small t) (hw : w < 2 ^ (leavesOf t).length) (hL : (leavesOf t).length ≤ 63) (hne : 0 < (keepTo t w (leavesOf t).length).length) : LeftOk t (left t (keepTo t w (leavesOf t).length)) (keepTo t w (leavesOf t).length) w := by
  have hk := keep_leaves (t := t) (w := w)
  have hpe : pruneE t (keepTo t w (leavesOf t).length) = 0 := by rw [pruneE, if_pos ht, if_neg (fun e => by rw [e] at hne; cases hne), keep_pr]
  refine ⟨left_ok ht hk hne, small_left hs, by rw [pruneV, if_pos hpe]; rfl, hpe, left_count ht hne, fun k hk1 => ?_, fun r hr => ?_, fun v hv h => left_cover ht hne hw hL hv h⟩
  · have hl := kept_len (t := t) (w := w)
    have h1 := keepOf_rev hk1
    have hma : (keptTo t w (leavesOf t).length).getD k 0 ∈ keptTo t w (leavesOf t).length := by rw [getD_of 0 _ k (by omega)]; exact List.getElem_mem _
    obtain ⟨i0, hi0, e0⟩ := mem_keep.2 hma
    have hl0 := leafAt_ok hk hi0
    have hs0 := stays_leaf ht hk hi0
    rw [e0] at hl0 hs0
    refine ⟨_, _, ?_, left_lt hl0.1 hs0, h1, hl0.1, by rw [left_node hl0.1 hs0]; rfl⟩
    rw [← left_leafN ht hne hk1]
    exact (leafN_at (t := left t (keepTo t w (leavesOf t).length)) (i := k) (by rw [left_count ht hne]; exact hk1)).2.2
  · obtain ⟨v, hv, h1, rfl⟩ := left_onto hr
    rw [left_node hv h1]
    have hf := find_name ht hv
    exact ⟨v, hv, hf.1, hf.2, left_kids ht hk hne hv h1, (left_clade ht hne hw hL hv h1).symm⟩

theorem pruned_law (t : List Node) (x : Nat) (hs : Small t) (hx : x < 2 ^ 64) : Ok Try.prog E 12 [.c (nodes t), bitsU x] (bv true) := by
  refine ok_of_vc (L := [(33, [(27, 30), (27, 31)])]) (ts := [4]) envOK mixed Try.func12 rfl (by kernel_rfl) rfl (by kernel_rfl) rfl fun hl => ?_
  simp only [Try.f12, bitsU, nums, bitsS, rowsS, nodes, zv, nv, bv, sv, VZ, BEq.rfl, seval, -Int.reduceNatCast', kAgg, scD, List.all_cons, List.all_nil]
  refine guardB.mk (fun h => ?_) (fun h => ?_) <;> simp only [h, nums, bitsS, rowsS, nodes, zv, nv, bv, sv, VZ, BEq.rfl, seval, -Int.reduceNatCast', kAgg, scD, List.all_cons, List.all_nil]
  · refine CallX.mk works_ok rfl ?_
    simp only [nums, bitsS, rowsS, nodes, zv, nv, bv, sv, VZ, BEq.rfl, seval, -Int.reduceNatCast', kAgg, scD, List.all_cons, List.all_nil]
  clear h
  refine CallX.mk (check_ok t hs) rfl ?_
  cases ht : okTree t with
  | false =>
    simp only [errOf_false, nums, bitsS, rowsS, nodes, zv, nv, bv, sv, VZ, BEq.rfl, seval, -Int.reduceNatCast', kAgg, scD, List.all_cons, List.all_nil]
    refine CallX.mk works_ok rfl ?_
    simp only [nums, bitsS, rowsS, nodes, zv, nv, bv, sv, VZ, BEq.rfl, seval, -Int.reduceNatCast', kAgg, scD, List.all_cons, List.all_nil]
  | true =>
  obtain ⟨hn, h63⟩ := okTree_len ht
  simp only [errOf_true, nums, bitsS, rowsS, nodes, zv, nv, bv, sv, VZ, BEq.rfl, seval, -Int.reduceNatCast', kAgg, scD, List.all_cons, List.all_nil]
  refine CallX.mk (Leaves_ok t hs) rfl ?_
  have hlR := leavesR_true ht
  have hll := leaves_len t
  have hlp := leaves_pos ht
  simp only [hlR, ht, errOf_true, nums, bitsS, rowsS, nodes, zv, nv, bv, sv, VZ, BEq.rfl, seval, -Int.reduceNatCast', kAgg, scD, List.all_cons, List.all_nil]
  refine CallX.mk (clades_ok t ht hs) rfl ?_
  have hcl : ∀ v, clade t v < 2 ^ 64 := fun v => Nat.lt_trans (clade_lt t v) (pow_lt64 (by omega))
  have hlat := fun k h => (leafN_at (t := t) (i := k) h).2.2
  obtain ⟨w, hw0⟩ : ∃ w, x &&& (2 ^ (leavesOf t).length - 1) = w := ⟨_, rfl⟩
  have h2p := Nat.two_pow_pos (leavesOf t).length
  have h2l := pow_lt64 (k := (leavesOf t).length) (by omega)
  have hw : w < 2 ^ (leavesOf t).length := by rw [← hw0]; exact Nat.and_lt_two_pow _ (by omega)
  have hw64 : w < 2 ^ 64 := Nat.lt_trans hw h2l
  have hand := and_u64 hx (show 2 ^ (leavesOf t).length - 1 < 2 ^ 64 by omega)
  rw [hw0] at hand
  clear hw0 hx
  have hleft := fun hne => left_all (w := w) ht hs hw (by omega) hne
  have hP := Prune_ok t (keepTo t w (leavesOf t).length) hs (by rw [keepTo_len]; have := cntB_le w (leavesOf t).length; omega)
  have hstep := fun k => keepTo_succ t w k
  have hklen := fun k => keepTo_len t w k
  have hkle := fun k => cntB_le w k
  have d0 : (((leavesOf t).length : Int) == 0) = false := beq_eq_false_iff_ne.2 (by omega)
  have d1 : decide ((63 : Int) < ((leavesOf t).length : Int)) = false := decide_eq_false (by omega)
  have hsh := shl_one (k := (leavesOf t).length) (by omega)
  have hsb := sub_onep (k := (leavesOf t).length) (by omega)
  obtain ⟨C, hC⟩ : ∃ C, (cladesTo t t.length).map u64D = C := ⟨_, rfl⟩
  have hCl : C.length = t.length := by rw [← hC, List.length_map, cladesTo_len]
  have hCat : ∀ v, v < t.length → C.getD v [] = u64D (clade t v) := fun v h => by rw [← hC]; exact cladesTo_at h
  clear hlR hw h2p h2l
  have hand' := hand
  clear hand
  revert hlat hll hlp hleft hP d0 d1 hsh hsb hand'
  obtain ⟨l, hl0⟩ : ∃ l, leavesOf t = l := ⟨_, rfl⟩
  rw [hl0]
  intro hll hlp hlat hleft hP d0 d1 hsh hsb hand
  simp only [hC, hl0, d0, d1, hsh, hsb, hand, nums, bitsS, rowsS, nodes, zv, nv, bv, sv, VZ, BEq.rfl, seval, -Int.reduceNatCast', kAgg, scD, List.all_cons, List.all_nil]
  clear d0 d1 hsh hsb
  refine ⟨Int.natCast_nonneg _, ?_⟩
  refine LoopVC.mk (Y := Nat) (fun k => k ≤ l.length) (fun k => ⟨[(0, .c (nodes t)), (1, bitsU w), (5, .c (nums l)), (7, .c (.sl C)), (9, .osl 1000 0), (10, nv k)], [(1000, .arr 3 0 ((keepTo t w k).map num))]⟩) (fun k => l.length - k) ⟨0, Enter.mk [(9, (1000, 3))] [] [] ?_, by omega⟩ ?_
  · simp only [bitsU, hand, nums, bitsS, rowsS, nodes, zv, nv, bv, sv, VZ, BEq.rfl, seval, -Int.reduceNatCast', kAgg, scD, List.all_cons, List.all_nil]
    exact ⟨rfl, ⟨rfl, rfl⟩, rfl⟩
  intro k hk
  simp only [lt_nat, bitsU, nums, bitsS, rowsS, nodes, zv, nv, bv, sv, VZ, BEq.rfl, seval, -Int.reduceNatCast', kAgg, scD, List.all_cons, List.all_nil]
  refine guardB.mk (fun h => ?_) (fun h => ?_)
  · have hk' : k < l.length := by simpa using h
    clear h
    have hbit : bits .and .u64 ((w / 2 ^ k : Nat) : Int) 1 = (((w.testBit k).toNat : Nat) : Int) := by
      have := and_u64 (a := w / 2 ^ k) (b := 1) (Nat.lt_of_le_of_lt (Nat.div_le_self ..) hw64) (by decide)
      rw [bit_one] at this; exact this
    have hst := hstep k
    simp only [shr_u64 (show k < 64 by omega), hbit, bit_int, wrap_nat (k := k) (by omega), nums, bitsS, rowsS, nodes, zv, nv, bv, sv, VZ, BEq.rfl, seval, -Int.reduceNatCast', kAgg, scD, List.all_cons, List.all_nil]
    refine ⟨Int.natCast_nonneg k, guardB.mk (fun h => ?_) (fun h => ?_)⟩
    · rw [if_pos h] at hst
      simp only [getD_num l k hk', hlat k hk', num_def, wrap_nat (k := k) (by omega), nums, bitsS, rowsS, nodes, zv, nv, bv, sv, VZ, BEq.rfl, seval, -Int.reduceNatCast', kAgg, scD, List.all_cons, List.all_nil]
      have hkl := hklen k
      have hcb := hkle k
      refine ⟨⟨Int.natCast_nonneg k, hk'⟩, ⟨by omega, allLen_num _⟩, k + 1, Enter.mk [] [] [(1000, 83)] ?_, by omega, by show l.length - (k + 1) < l.length - k; omega⟩
      simp only [hst, hlat k hk', List.map_cons, num_def, nums, bitsS, rowsS, nodes, zv, nv, bv, sv, VZ, BEq.rfl, seval, -Int.reduceNatCast', kAgg, scD, List.all_cons, List.all_nil]
    · have h : w.testBit k = false := by simpa using h
      rw [if_neg (by simp [h])] at hst
      simp only [wrap_nat (k := k) (by omega), nums, bitsS, rowsS, nodes, zv, nv, bv, sv, VZ, BEq.rfl, seval, -Int.reduceNatCast', kAgg, scD, List.all_cons, List.all_nil]
      refine ⟨k + 1, Enter.mk [] [] [] ?_, by omega, by show l.length - (k + 1) < l.length - k; omega⟩
      simp only [hst, nums, bitsS, rowsS, nodes, zv, nv, bv, sv, VZ, BEq.rfl, seval, -Int.reduceNatCast', kAgg, scD, List.all_cons, List.all_nil]
  · have hk' : k = l.length := by
      have : ¬ k < l.length := by simpa using h
      omega
    subst hk'
    clear h
    simp only [nums, bitsS, rowsS, nodes, zv, nv, bv, sv, VZ, BEq.rfl, seval, -Int.reduceNatCast', kAgg, scD, List.all_cons, List.all_nil]
    refine CallX.mk (Ok.vals hP) rfl ?_
    have z00 : (((0 : Nat) : Int) == 0) = true := rfl
    have hKc := hklen l.length
    have hKle := hkle l.length
    rcases Nat.eq_zero_or_pos (keepTo t w l.length).length with h0 | h0
    · have hK := List.length_eq_zero_iff.1 h0
      have e1 : pruneE t (keepTo t w l.length) = 5 := by rw [pruneE, if_pos ht, if_pos hK]
      have e2 : pruneV t (keepTo t w l.length) = [] := by rw [pruneV, if_neg (by rw [e1]; decide)]
      rw [hK] at e1 e2
      simp only [e1, e2, hK, z00, List.map_nil, List.length_nil, valA, beq_self_eq_true, nums, bitsS, rowsS, nodes, zv, nv, bv, sv, VZ, BEq.rfl, seval, -Int.reduceNatCast', kAgg, scD, List.all_cons, List.all_nil]
      refine CallX.mk works_ok rfl ?_
      simp only [nums, bitsS, rowsS, nodes, zv, nv, bv, sv, VZ, BEq.rfl, seval, -Int.reduceNatCast', kAgg, scD, List.all_cons, List.all_nil]
    · have hL := hleft h0
      clear hleft hP
      obtain ⟨K, hK⟩ : ∃ K, keepTo t w l.length = K := ⟨_, rfl⟩
      obtain ⟨U, hU⟩ : ∃ U, left t K = U := ⟨_, rfl⟩
      rw [hK] at h0 hL hKc
      rw [hU] at hL
      have hpv := hL.pv
      have hpe := hL.pe
      have huok := hL.ok
      have hus := hL.small
      have hcnt := hL.cnt
      have hleaf := hL.leaf
      have hnode := hL.node
      have hcov := hL.cover
      have hu63 := (okTree_len huok).2
      have hucl : ∀ v, clade U v < 2 ^ 64 := fun v => Nat.lt_trans (clade_lt U v) (pow_lt64 (by have := leaves_len U; omega))
      obtain ⟨R, hR⟩ : ∃ R, (cladesTo U U.length).map u64D = R := ⟨_, rfl⟩
      have hRl : R.length = U.length := by rw [← hR, List.length_map, cladesTo_len]
      have hRat : ∀ v, v < U.length → R.getD v [] = u64D (clade U v) := fun v h => by rw [← hR]; exact cladesTo_at h
      have huR := leavesR_true huok
      have eself : ∀ z : Int, (z != z) = false := fun z => by simp
      have hne : ((K.length : Int) == 0) = false := beq_eq_false_iff_ne.2 (by omega)
      simp only [hK, hpv, hpe, hne, valA, nums, bitsS, rowsS, nodes, zv, nv, bv, sv, VZ, BEq.rfl, seval, -Int.reduceNatCast', kAgg, scD, List.all_cons, List.all_nil]
      refine CallX.mk (check_ok U hus) rfl ?_
      simp only [huok, errOf_true, nums, bitsS, rowsS, nodes, zv, nv, bv, sv, VZ, BEq.rfl, seval, -Int.reduceNatCast', kAgg, scD, List.all_cons, List.all_nil]
      refine CallX.mk (clades_ok U huok hus) rfl ?_
      simp only [hR, nums, bitsS, rowsS, nodes, zv, nv, bv, sv, VZ, BEq.rfl, seval, -Int.reduceNatCast', kAgg, scD, List.all_cons, List.all_nil]
      refine CallX.mk (Leaves_ok U hus) rfl ?_
      obtain ⟨ml, hml⟩ : ∃ ml, leavesOf U = ml := ⟨_, rfl⟩
      rw [hml] at hcnt huR
      simp only [hml] at hleaf
      simp only [huok, huR, hcnt, errOf_true, eself, nums, bitsS, rowsS, nodes, zv, nv, bv, sv, VZ, BEq.rfl, seval, -Int.reduceNatCast', kAgg, scD, List.all_cons, List.all_nil]
      refine LoopVC.mk (Y := Nat) (fun k => k ≤ K.length) (fun k => ⟨[(0, .c (nodes t)), (1, bitsU w), (7, .c (.sl C)), (9, .c (nums K)), (11, .c (nodes U)), (13, .c (.sl R)), (15, .c (nums ml)), (17, nv k)], []⟩) (fun k => K.length - k) ⟨0, Enter.id ?_, by omega⟩ ?_
      · simp only [bitsU, nums, bitsS, rowsS, nodes, zv, nv, bv, sv, VZ, BEq.rfl, seval, -Int.reduceNatCast', kAgg, scD, List.all_cons, List.all_nil]
        try rfl
      intro k hk
      simp only [lt_nat, hcnt, bitsU, nums, bitsS, rowsS, nodes, zv, nv, bv, sv, VZ, BEq.rfl, seval, -Int.reduceNatCast', kAgg, scD, List.all_cons, List.all_nil]
      refine guardB.mk (fun h => ?_) (fun h => ?_)
      · have hk' : k < K.length := by simpa using h
        clear h
        obtain ⟨a, b, ha, hal, hb, hbl, hnm⟩ := hleaf k hk'
        have w1 : IntKind.i64.wrap ((K.length : Int) - 1) = ((K.length - 1 : Nat) : Int) := by rw [wrap_in (by omega) (by omega)]; omega
        have w2 : IntKind.i64.wrap (((K.length - 1 : Nat) : Int) - (k : Int)) = ((K.length - 1 - k : Nat) : Int) := by rw [wrap_in (by omega) (by omega)]; omega
        simp only [w1, w2, getD_num ml k (by omega), getD_num K (K.length - 1 - k) (by omega), ha, hb, num_def, getD_node U a hal, getD_node t b hbl, node_def, hnm, bne_self_eq_false, wrap_nat (k := k) (by omega), nums, bitsS, rowsS, nodes, zv, nv, bv, sv, VZ, BEq.rfl, seval, -Int.reduceNatCast', kAgg, scD, List.all_cons, List.all_nil]
        refine ⟨⟨Int.natCast_nonneg k, by omega⟩, ⟨Int.natCast_nonneg a, hal⟩, ⟨Int.natCast_nonneg _, by omega⟩, ⟨Int.natCast_nonneg b, hbl⟩, k + 1, Enter.id ?_, by omega, by show K.length - (k + 1) < K.length - k; omega⟩
        simp only [bitsU, nums, bitsS, rowsS, nodes, zv, nv, bv, sv, VZ, BEq.rfl, seval, -Int.reduceNatCast', kAgg, scD, List.all_cons, List.all_nil]
      · have hk' : k = K.length := by
          have : ¬ k < K.length := by simpa using h
          omega
        subst hk'
        clear h
        refine LoopVC.mk (Y := Nat) (fun v => v ≤ U.length) (fun v => ⟨[(0, .c (nodes t)), (1, bitsU w), (7, .c (.sl C)), (11, .c (nodes U)), (13, .c (.sl R)), (18, nv v)], []⟩) (fun v => U.length - v) ⟨0, Enter.id ?_, by omega⟩ ?_
        · simp only [bitsU, nums, bitsS, rowsS, nodes, zv, nv, bv, sv, VZ, BEq.rfl, seval, -Int.reduceNatCast', kAgg, scD, List.all_cons, List.all_nil]
          try rfl
        intro v hv
        simp only [lt_nat, bitsU, nums, bitsS, rowsS, nodes, zv, nv, bv, sv, VZ, BEq.rfl, seval, -Int.reduceNatCast', kAgg, scD, List.all_cons, List.all_nil]
        refine guardB.mk (fun h => ?_) (fun h => ?_)
        · have hv' : v < U.length := by simpa using h
          clear h
          have hck := chkN huok hv'
          have hcv : childV U (v : Int) = kids U v := by rw [childV, if_pos hck]
          obtain ⟨a, hal, hf1, hf2, hk1, hsq⟩ := hnode v hv'
          have hRv := hRat v hv'
          have hCa := hCat a hal
          refine CallX.mk (Children_ok U v hus) rfl ?_
          simp only [hck, hcv, getD_node U v hv', node_def, nums, bitsS, rowsS, nodes, zv, nv, bv, sv, VZ, BEq.rfl, seval, -Int.reduceNatCast', kAgg, scD, List.all_cons, List.all_nil]
          refine ⟨⟨Int.natCast_nonneg v, hv'⟩, ?_⟩
          refine CallX.mk (Find_ok t _ hs) rfl ?_
          have q1 : decide ((a : Int) < 0) = false := decide_eq_false (by omega)
          have q2 : decide ((t.length : Int) ≤ (a : Int)) = false := decide_eq_false (by omega)
          have q3 : (((kids U (v : Nat)).length : Int) == 1) = false := beq_eq_false_iff_ne.2 (by omega)
          simp only [hf1, hf2, q1, q2, q3, hCl, hCa, u64D_def, eself, nums, bitsS, rowsS, nodes, zv, nv, bv, sv, VZ, BEq.rfl, seval, -Int.reduceNatCast', kAgg, scD, List.all_cons, List.all_nil]
          refine ⟨⟨Int.natCast_nonneg a, by omega⟩, ?_⟩
          refine CallX.mk (squeeze_ok _ w (hcl a) hw64) rfl ?_
          simp only [bitsU, hsq, hRl, hRv, u64D_def, eself, wrap_nat (k := v) (by omega), nums, bitsS, rowsS, nodes, zv, nv, bv, sv, VZ, BEq.rfl, seval, -Int.reduceNatCast', kAgg, scD, List.all_cons, List.all_nil]
          refine ⟨⟨Int.natCast_nonneg v, by omega⟩, v + 1, Enter.id ?_, by omega, by show U.length - (v + 1) < U.length - v; omega⟩
          simp only [bitsU, nums, bitsS, rowsS, nodes, zv, nv, bv, sv, VZ, BEq.rfl, seval, -Int.reduceNatCast', kAgg, scD, List.all_cons, List.all_nil]
        · have hv' : v = U.length := by
            have : ¬ v < U.length := by simpa using h
            omega
          subst hv'
          clear h
          refine LoopVC.mk (Y := Nat) (fun v => v ≤ t.length) (fun v => ⟨[(0, .c (nodes t)), (1, bitsU w), (7, .c (.sl C)), (13, .c (.sl R)), (23, nv v)], []⟩) (fun v => t.length - v) ⟨0, Enter.id ?_, by omega⟩ ?_
          · simp only [bitsU, nums, bitsS, rowsS, nodes, zv, nv, bv, sv, VZ, BEq.rfl, seval, -Int.reduceNatCast', kAgg, scD, List.all_cons, List.all_nil]
            try rfl
          intro v hv
          simp only [lt_nat, bitsU, nums, bitsS, rowsS, nodes, zv, nv, bv, sv, VZ, BEq.rfl, seval, -Int.reduceNatCast', kAgg, scD, List.all_cons, List.all_nil]
          refine guardB.mk (fun h => ?_) (fun h => ?_)
          · have hv' : v < t.length := by simpa using h
            clear h
            have hCv := hCat v hv'
            have hcv := hcov v hv'
            simp only [hCl, hCv, u64D_def, nums, bitsS, rowsS, nodes, zv, nv, bv, sv, VZ, BEq.rfl, seval, -Int.reduceNatCast', kAgg, scD, List.all_cons, List.all_nil]
            refine ⟨⟨Int.natCast_nonneg v, by omega⟩, ?_⟩
            refine CallX.mk (squeeze_ok _ w (hcl v) hw64) rfl ?_
            obtain ⟨z, hz⟩ : ∃ z, sqzN (clade t v) w = z := ⟨_, rfl⟩
            rw [hz] at hcv
            obtain ⟨F, hF⟩ : ∃ F : Nat → Bool, F = fun j => ((z : Nat) : Int) == 0 || (List.range j).any fun r => ((clade U r : Nat) : Int) == (z : Int) := ⟨_, rfl⟩
            have hF0 : F 0 = (((z : Nat) : Int) == 0) := by rw [hF]; simp
            have hFs : ∀ j, F (j + 1) = (F j || ((clade U j : Nat) : Int) == (z : Int)) := fun j => by rw [hF]; simp [List.range_succ, Bool.or_assoc]
            have hFe : F U.length = true := by
              rw [hF]
              by_cases hz0 : z = 0
              · subst hz0; rfl
              · obtain ⟨r, hr, e⟩ := hcv hz0
                have : ((List.range U.length).any fun r => ((clade U r : Nat) : Int) == (z : Int)) = true := by
                  rw [List.any_eq_true]
                  exact ⟨r, by simpa using hr, by rw [e]; simp⟩
                show (_ || _) = true
                rw [this, Bool.or_true]
            simp only [bitsU, hz, nums, bitsS, rowsS, nodes, zv, nv, bv, sv, VZ, BEq.rfl, seval, -Int.reduceNatCast', kAgg, scD, List.all_cons, List.all_nil]
            refine LoopVC.mk (Y := Nat) (fun j => j ≤ U.length) (fun j => ⟨[(0, .c (nodes t)), (1, bitsU w), (7, .c (.sl C)), (13, .c (.sl R)), (23, nv v), (24, bitsU z), (25, bv (F j)), (26, nv j)], []⟩) (fun j => U.length - j) ⟨0, Enter.id ?_, by omega⟩ ?_
            · simp only [bitsU, hF0, nums, bitsS, rowsS, nodes, zv, nv, bv, sv, VZ, BEq.rfl, seval, -Int.reduceNatCast', kAgg, scD, List.all_cons, List.all_nil]
              try rfl
            intro j hj
            have hRlt : decide ((j : Int) < (R.length : Int)) = decide (j < U.length) := by rw [hRl]; congr 1; exact propext ⟨fun h => by omega, fun h => by omega⟩
            simp only [hRlt, bitsU, nums, bitsS, rowsS, nodes, zv, nv, bv, sv, VZ, BEq.rfl, seval, -Int.reduceNatCast', kAgg, scD, List.all_cons, List.all_nil]
            refine guardB.mk (fun h => ?_) (fun h => ?_)
            · have hj' : j < U.length := by simpa using h
              clear h
              have hRj := hRat j hj'
              have hFs := hFs j
              cases hE : F j with
              | true =>
                rw [hE, Bool.true_or] at hFs
                simp only [hE, wrap_nat (k := j) (by omega), nums, bitsS, rowsS, nodes, zv, nv, bv, sv, VZ, BEq.rfl, seval, -Int.reduceNatCast', kAgg, scD, List.all_cons, List.all_nil]
                refine ⟨j + 1, Enter.id ?_, by omega, by show U.length - (j + 1) < U.length - j; omega⟩
                simp only [bitsU, hFs, nums, bitsS, rowsS, nodes, zv, nv, bv, sv, VZ, BEq.rfl, seval, -Int.reduceNatCast', kAgg, scD, List.all_cons, List.all_nil]
              | false =>
                rw [hE, Bool.false_or] at hFs
                simp only [hE, hRl, hRj, u64D_def, wrap_nat (k := j) (by omega), nums, bitsS, rowsS, nodes, zv, nv, bv, sv, VZ, BEq.rfl, seval, -Int.reduceNatCast', kAgg, scD, List.all_cons, List.all_nil]
                refine ⟨⟨Int.natCast_nonneg j, by omega⟩, j + 1, Enter.id ?_, by omega, by show U.length - (j + 1) < U.length - j; omega⟩
                simp only [bitsU, hFs, nums, bitsS, rowsS, nodes, zv, nv, bv, sv, VZ, BEq.rfl, seval, -Int.reduceNatCast', kAgg, scD, List.all_cons, List.all_nil]
            · have hj' : j = U.length := by
                have : ¬ j < U.length := by simpa using h
                omega
              subst hj'
              clear h
              simp only [hFe, wrap_nat (k := v) (by omega), nums, bitsS, rowsS, nodes, zv, nv, bv, sv, VZ, BEq.rfl, seval, -Int.reduceNatCast', kAgg, scD, List.all_cons, List.all_nil]
              refine ⟨v + 1, Enter.id ?_, by omega, by show t.length - (v + 1) < t.length - v; omega⟩
              simp only [bitsU, nums, bitsS, rowsS, nodes, zv, nv, bv, sv, VZ, BEq.rfl, seval, -Int.reduceNatCast', kAgg, scD, List.all_cons, List.all_nil]
          · have hv' : v = t.length := by
              have : ¬ v < t.length := by simpa using h
              omega
            subst hv'
            clear h
            refine CallX.mk works_ok rfl ?_
            simp only [nums, bitsS, rowsS, nodes, zv, nv, bv, sv, VZ, BEq.rfl, seval, -Int.reduceNatCast', kAgg, scD, List.all_cons, List.all_nil]

end Go.Cp
namespace Go.Proofs.Ytiioldgdgfdjeaa
open Go Go.Proofs Go.RowKit Go.ChangeShapes Go.WideShapes Go.ChangeAt Go.Vx Go.Cp

theorem treePruned_lifted (os : Os) (started : os.Started) (H : Type) (enc : TypeId × Value → H) :
    ReturnsInHanded {} Try.checked os 12 .any (Rows.treePrunedSpec.pre6 enc Try.prog Try.f12 Rows.treePrunedRow.domain false) (Rows.treePrunedSpec.post enc Try.prog Try.f12 false true false false) := by
  refine law_lifted (m := 8) (tb := 4) os started H enc own laid (by kernel_rfl) Try.func12 rfl Try.underlying4 rfl ?_ (by kernel_rfl) (by kernel_rfl)
    (ChangeSpec.witness6 (enc := enc) (C := Try.checked) false ⟨#[], #[.slice none 0 0, .int .u64 0], []⟩ 8 (by kernel_rfl) (by kernel_rfl) (by kernel_rfl) (by kernel_rfl)) ?_
  · rw [Try.params12]
    intro ds hd
    match ds, hd with
    | [d1, d2], _ => exact ⟨rfl, rfl, rfl⟩
  · rw [Try.params12]
    intro dss h
    obtain ⟨x1, x2, rfl, h1, h2⟩ := typedL2 h
    obtain ⟨t, rfl, hs, hl⟩ := typed_nodes (m := 5) h1
    obtain ⟨x, rfl, hx⟩ := typed_u64 (m := 7) h2
    simp only [argsAV, argAV, Try.underlying22, Try.underlying45]
    exact pruned_law t x hs hx

theorem treePruned_holds : Rows.TreePrunedSaid :=
  OpenClaim.holds_of_wide 12 Try.f12 rfl rfl rfl rfl rfl rfl rfl ⟨rfl, rfl, rfl, rfl, rfl⟩ rfl rfl rfl rfl rfl (by kernel_rfl) Try.func12 (by kernel_rfl)
    (of_decide_eq_true (by kernel_rfl)) (by unfold Func.isWrapper; first | (rw [if_pos (by decide +kernel)]; kernel_rfl) | (rw [if_neg (by decide +kernel)]; exact ⟨rfl, rfl⟩))
    (fun os started H enc _ => treePruned_lifted os started H enc)
#print axioms treePruned_holds

end Go.Proofs.Ytiioldgdgfdjeaa
