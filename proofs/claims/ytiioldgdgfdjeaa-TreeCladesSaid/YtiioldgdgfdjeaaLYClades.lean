/-
  Tree: the law TreeClades. Conditions: none.
-/
import Derived.Test.YtiioldgdgfdjeaaMM
set_option linter.unusedVariables false
set_option linter.unusedSimpArgs false
set_option maxHeartbeats 8000000
set_option maxRecDepth 10000
namespace Go.Cp
open Go Go.Proofs Go.Vx

theorem kids_order {t : List Node} {v : Int} {i j : Nat} (hij : i < j) (hj : j < (kids t v).length) : (kids t v).getD i 0 < (kids t v).getD j 0 := by
  have hp : (kids t v).Pairwise (· < ·) := List.Pairwise.map _ (fun a b h => Int.ofNat_lt.2 h) (List.Pairwise.filter _ List.pairwise_lt_range)
  rw [getD_of 0 _ i (by omega), getD_of 0 _ j hj]
  exact List.pairwise_iff_getElem.1 hp i j (by omega) hj hij
theorem leavesTo_step {t : List Node} {v : Nat} (h : kids t v = []) : (leavesTo t (v + 1)).length = (leavesTo t v).length + 1 := by rw [leavesTo_succ, if_pos h, List.length_append]; rfl
theorem leavesTo_stay {t : List Node} {v : Nat} (h : kids t v ≠ []) : (leavesTo t (v + 1)).length = (leavesTo t v).length := by rw [leavesTo_succ, if_neg h]
theorem sub_one64 {k : Nat} (h : k < 64) : IntKind.u64.wrap (((2 ^ k : Nat) : Int) - 1) = ((2 ^ k - 1 : Nat) : Int) := by
  have h1 := pow_lt64 h
  have h2 := Nat.two_pow_pos k
  rw [wraps_u64 _ (by omega) (by omega)]
  omega

theorem clades_law (t : List Node) (hs : Small t) : Ok Try.prog E 7 [.c (nodes t)] (bv true) := by
  refine ok_of_vc (L := []) (ts := [2]) envOK mixed Try.func7 rfl (by kernel_rfl) rfl (by kernel_rfl) rfl fun hl => ?_
  simp only [Try.f7, nums, bitsS, rowsS, nodes, zv, nv, bv, sv, VZ, BEq.rfl, seval, -Int.reduceNatCast', kAgg, scD, List.all_cons, List.all_nil]
  refine guardB.mk (fun h => ?_) (fun h => ?_) <;> simp only [h, nums, bitsS, rowsS, nodes, zv, nv, bv, sv, VZ, BEq.rfl, seval, -Int.reduceNatCast', kAgg, scD, List.all_cons, List.all_nil]
  · refine CallX.mk works_ok rfl ?_
    simp only [nums, bitsS, rowsS, nodes, zv, nv, bv, sv, VZ, BEq.rfl, seval, -Int.reduceNatCast', kAgg, scD, List.all_cons, List.all_nil]
  clear h
  refine CallX.mk (check_ok t hs) rfl ?_
  cases ht : okTree t with
  | false =>
    simp only [errOf_false, nums, bitsS, rowsS, nodes, zv, nv, bv, sv, VZ, BEq.rfl, seval, -Int.reduceNatCast', kAgg, scD, List.all_cons, List.all_nil]
    refine CallX.mk works_ok rfl ?_
    simp only [nums, bitsS, rowsS, nodes, zv, nv, bv, sv, VZ, BEq.rfl, seval, -Int.reduceNatCast', kAgg, scD, List.all_cons, List.all_nil]
  | true =>
  obtain ⟨hn, h63⟩ := okTree_len ht
  simp only [errOf_true, nums, bitsS, rowsS, nodes, zv, nv, bv, sv, VZ, BEq.rfl, seval, -Int.reduceNatCast', kAgg, scD, List.all_cons, List.all_nil]
  refine CallX.mk (clades_ok t ht hs) rfl ?_
  simp only [nums, bitsS, rowsS, nodes, zv, nv, bv, sv, VZ, BEq.rfl, seval, -Int.reduceNatCast', kAgg, scD, List.all_cons, List.all_nil]
  refine CallX.mk (Leaves_ok t hs) rfl ?_
  have hlR := leavesR_true ht
  have hll := leaves_len t
  have hlp := leaves_pos ht
  have hroot := clade_root ht
  have hleaf := fun k h => clade_leaf ht (k := k) h
  have hlat := fun k h => (leafN_at (t := t) (i := k) h).2.2
  have hcnt := fun v h h2 => leafCount (t := t) (v := v) h h2
  have hcl := fun v => clade_lt t v
  have hsl := fun v j => sumTo_lt t v j
  obtain ⟨C, hC⟩ : ∃ C, (cladesTo t t.length).map u64D = C := ⟨_, rfl⟩
  have hCl : C.length = t.length := by rw [← hC, List.length_map, cladesTo_len]
  have hCat : ∀ v, v < t.length → C.getD v [] = u64D (clade t v) := fun v h => by rw [← hC]; exact cladesTo_at h
  have hC0 := hCat 0 hn
  obtain ⟨l, hl0⟩ : ∃ l, leavesOf t = l := ⟨_, rfl⟩
  simp only [hl0] at hlR hll hlp hroot hleaf hlat hcnt hcl hsl
  have hend : (leavesTo t t.length).length = l.length := congrArg List.length hl0
  have hlt64 : ∀ {x : Nat}, x < 2 ^ l.length → x < 2 ^ 64 := fun h => Nat.lt_trans h (pow_lt64 (by omega))
  have d1 : decide ((l.length : Int) < 1) = false := decide_eq_false (by omega)
  have d2 : decide ((t.length : Int) < (l.length : Int)) = false := decide_eq_false (by omega)
  have eself : ∀ z : Int, (z != z) = false := fun z => by simp
  simp only [hlR, ht, errOf_true, hC, hCl, hC0, hroot, d1, d2, u64D_def, eself, shl_one (k := l.length) (by omega), sub_one64 (k := l.length) (by omega), nums, bitsS, rowsS, nodes, zv, nv, bv, sv, VZ, BEq.rfl, seval, -Int.reduceNatCast', kAgg, scD, List.all_cons, List.all_nil]
  refine ⟨by omega, Int.natCast_nonneg _, ?_⟩
  refine LoopVC.mk (Y := Nat) (fun v => v ≤ t.length) (fun v => ⟨[(0, .c (nodes t)), (3, .c (.sl C)), (5, .c (nums l)), (7, nv (leavesTo t v).length), (8, nv v)], []⟩) (fun v => t.length - v) ⟨0, Enter.id ?_, by omega⟩ ?_
  · simp only [nums, bitsS, rowsS, nodes, zv, nv, bv, sv, VZ, BEq.rfl, seval, -Int.reduceNatCast', kAgg, scD, List.all_cons, List.all_nil]
    exact ⟨rfl, rfl⟩
  intro v hv
  have hvl := leavesTo_len t v
  simp only [lt_nat, nums, bitsS, rowsS, nodes, zv, nv, bv, sv, VZ, BEq.rfl, seval, -Int.reduceNatCast', kAgg, scD, List.all_cons, List.all_nil]
  refine guardB.mk (fun h => ?_) (fun h => ?_)
  · have hv' : v < t.length := by simpa using h
    clear h
    have hck := chkN ht hv'
    have hcv : childV t (v : Int) = kids t v := by rw [childV, if_pos hck]
    have hCv := hCat v hv'
    simp only [nums, bitsS, rowsS, nodes, zv, nv, bv, sv, VZ, BEq.rfl, seval, -Int.reduceNatCast', kAgg, scD, List.all_cons, List.all_nil]
    refine CallX.mk (Children_ok t v hs) rfl ?_
    simp only [hck, hcv, nums, bitsS, rowsS, nodes, zv, nv, bv, sv, VZ, BEq.rfl, seval, -Int.reduceNatCast', kAgg, scD, List.all_cons, List.all_nil]
    by_cases hk : kids t v = []
    · obtain ⟨h1, h2⟩ := hcnt v hv' hk
      have h3 := hleaf _ h1
      have h4 := hlat _ h1
      rw [h2] at h3 h4
      have h5 := leavesTo_step hk
      obtain ⟨K, hK⟩ : ∃ K, (leavesTo t v).length = K := ⟨_, rfl⟩
      rw [hK] at h1 h3 h4 h5 hvl
      have d3 : decide ((l.length : Int) ≤ (K : Int)) = false := decide_eq_false (by omega)
      have z00 : (((0 : Nat) : Int) == 0) = true := rfl
      simp only [hk, hK, z00, d3, getD_num l K h1, h4, num_def, hCv, h3, hCl, u64D_def, eself, shl_one (k := K) (by omega), wrap_nat (k := K) (by omega), wrap_nat (k := v) (by omega), List.map_nil, List.length_nil, nums, bitsS, rowsS, nodes, zv, nv, bv, sv, VZ, BEq.rfl, seval, -Int.reduceNatCast', kAgg, scD, List.all_cons, List.all_nil]
      refine ⟨⟨Int.natCast_nonneg K, by omega⟩, ⟨Int.natCast_nonneg v, by omega⟩, by omega, v + 1, Enter.id ?_, by omega, by show t.length - (v + 1) < t.length - v; omega⟩
      simp only [h5, nums, bitsS, rowsS, nodes, zv, nv, bv, sv, VZ, BEq.rfl, seval, -Int.reduceNatCast', kAgg, scD, List.all_cons, List.all_nil]
    · have hstay := leavesTo_stay hk
      have hall := sumTo_all ht hv' hk
      have hidx := fun i h => kid_idx (t := t) (v := v) (j := i) h
      have hord := fun i j h h2 => kids_order (t := t) (v := (v : Int)) (i := i) (j := j) h h2
      have hap := fun j h => sumTo_apart ht (v := v) (j := j) h
      have hst : ∀ j, sumTo t v (j + 1) = sumTo t v j ||| clade t ((kids t v).getD j 0).toNat := fun j => rfl
      have hs0 : sumTo t v 0 = 0 := rfl
      have hkl : (kids t v).length ≤ t.length := kidsTo_len t v _
      obtain ⟨ks, hks⟩ : ∃ ks, kids t v = ks := ⟨_, rfl⟩
      simp only [hks] at hk hall hidx hord hap hst hkl
      have hne : ((ks.length : Int) == 0) = false := by
        have : 0 < ks.length := List.length_pos_iff.2 hk
        simp; omega
      simp only [hks, hne, nums, bitsS, rowsS, nodes, zv, nv, bv, sv, VZ, BEq.rfl, seval, -Int.reduceNatCast', kAgg, scD, List.all_cons, List.all_nil]
      refine LoopVC.mk (Y := Nat) (fun i => i ≤ ks.length) (fun i => ⟨[(0, .c (nodes t)), (3, .c (.sl C)), (5, .c (nums l)), (7, nv (leavesTo t v).length), (8, nv v), (9, .c (nums ks)), (11, bitsU (sumTo t v i)), (12, nv i)], []⟩) (fun i => ks.length - i) ⟨0, Enter.id ?_, by omega⟩ ?_
      · simp only [hs0, bitsU, nums, bitsS, rowsS, nodes, zv, nv, bv, sv, VZ, BEq.rfl, seval, -Int.reduceNatCast', kAgg, scD, List.all_cons, List.all_nil]
        try exact ⟨rfl, rfl⟩
      intro i hi
      simp only [lt_nat, bitsU, nums, bitsS, rowsS, nodes, zv, nv, bv, sv, VZ, BEq.rfl, seval, -Int.reduceNatCast', kAgg, scD, List.all_cons, List.all_nil]
      refine guardB.mk (fun h => ?_) (fun h => ?_)
      · have hi' : i < ks.length := by simpa using h
        clear h
        obtain ⟨c, hc, hcl0, hcp⟩ := hidx i hi'
        have hpos : v < c := by
          by_cases e : c = 0
          · subst e; rw [okTree_root ht] at hcp; omega
          · have := okTree_par ht hcl0 (by omega); omega
        have hap := hap i hi'
        have hst := hst i
        rw [hc, Int.toNat_natCast] at hap hst
        have hand := and_u64 (hlt64 (hcl c)) (hlt64 (hsl v i))
        have hor := or_u64 (hlt64 (hsl v i)) (hlt64 (hcl c))
        rw [hap] at hand
        rw [← hst] at hor
        have hcp : (t.getD c Node.zero).parent = (v : Int) := hcp
        have e1 : decide ((c : Int) ≤ (v : Int)) = false := decide_eq_false (by omega)
        have e2 : decide ((t.length : Int) ≤ (c : Int)) = false := decide_eq_false (by omega)
        have z0 : (((0 : Nat) : Int) != 0) = false := rfl
        have hCc := hCat c hcl0
        rcases Nat.eq_zero_or_pos i with h0 | h0
        · have q3 : decide ((0 : Int) < (i : Int)) = false := decide_eq_false (by omega)
          have q4 := q3
          have q5 := q3
          have q6 := q3
          simp only [q3, q4, q5, q6, getD_num ks i hi', hc, num_def, e1, e2, getD_node t c hcl0, node_def, hcp, eself, hCl, hCc, u64D_def, hand, z0, hor, wrap_nat (k := i) (by omega), nums, bitsS, rowsS, nodes, zv, nv, bv, sv, VZ, BEq.rfl, seval, -Int.reduceNatCast', kAgg, scD, List.all_cons, List.all_nil]
          refine ⟨⟨Int.natCast_nonneg i, hi'⟩, ⟨Int.natCast_nonneg c, hcl0⟩, ⟨Int.natCast_nonneg c, hcl0⟩, ⟨Int.natCast_nonneg c, hcl0⟩, i + 1, Enter.id ?_, by omega, by show ks.length - (i + 1) < ks.length - i; omega⟩
          simp only [bitsU, nums, bitsS, rowsS, nodes, zv, nv, bv, sv, VZ, BEq.rfl, seval, -Int.reduceNatCast', kAgg, scD, List.all_cons, List.all_nil]
        · have q3 : decide ((0 : Int) < (i : Int)) = true := decide_eq_true (by omega)
          have q4 : IntKind.i64.wrap ((i : Int) - 1) = ((i - 1 : Nat) : Int) := by rw [wrap_in (by omega) (by omega)]; omega
          have q5 := getD_num ks (i - 1) (by omega)
          obtain ⟨d, hd, _, _⟩ := hidx (i - 1) (by omega)
          have hlt := hord (i - 1) i (by omega) hi'
          rw [hd] at q5 hlt
          rw [hc] at hlt
          have q6 : decide ((c : Int) ≤ (d : Int)) = false := decide_eq_false (by omega)
          simp only [q3, q4, q5, q6, getD_num ks i hi', hc, num_def, e1, e2, getD_node t c hcl0, node_def, hcp, eself, hCl, hCc, u64D_def, hand, z0, hor, wrap_nat (k := i) (by omega), nums, bitsS, rowsS, nodes, zv, nv, bv, sv, VZ, BEq.rfl, seval, -Int.reduceNatCast', kAgg, scD, List.all_cons, List.all_nil]
          refine ⟨⟨Int.natCast_nonneg i, hi'⟩, ⟨Int.natCast_nonneg _, by omega⟩, ⟨Int.natCast_nonneg c, hcl0⟩, ⟨Int.natCast_nonneg c, hcl0⟩, ⟨Int.natCast_nonneg c, hcl0⟩, i + 1, Enter.id ?_, by omega, by show ks.length - (i + 1) < ks.length - i; omega⟩
          simp only [bitsU, nums, bitsS, rowsS, nodes, zv, nv, bv, sv, VZ, BEq.rfl, seval, -Int.reduceNatCast', kAgg, scD, List.all_cons, List.all_nil]
      · have hi' : i = ks.length := by
          have : ¬ i < ks.length := by simpa using h
          omega
        subst hi'
        clear h
        simp only [hCl, hCv, hall, u64D_def, eself, wrap_nat (k := v) (by omega), nums, bitsS, rowsS, nodes, zv, nv, bv, sv, VZ, BEq.rfl, seval, -Int.reduceNatCast', kAgg, scD, List.all_cons, List.all_nil]
        refine ⟨by omega, v + 1, Enter.id ?_, by omega, by show t.length - (v + 1) < t.length - v; omega⟩
        simp only [hstay, nums, bitsS, rowsS, nodes, zv, nv, bv, sv, VZ, BEq.rfl, seval, -Int.reduceNatCast', kAgg, scD, List.all_cons, List.all_nil]
  · have hv' : v = t.length := by
      have : ¬ v < t.length := by simpa using h
      omega
    subst hv'
    clear h
    have hbe : (((leavesTo t t.length).length : Int) == (l.length : Int)) = true := by rw [hend]; simp
    simp only [hbe, nums, bitsS, rowsS, nodes, zv, nv, bv, sv, VZ, BEq.rfl, seval, -Int.reduceNatCast', kAgg, scD, List.all_cons, List.all_nil]
    refine CallX.mk works_ok rfl ?_
    simp only [nums, bitsS, rowsS, nodes, zv, nv, bv, sv, VZ, BEq.rfl, seval, -Int.reduceNatCast', kAgg, scD, List.all_cons, List.all_nil]

end Go.Cp
namespace Go.Proofs.Ytiioldgdgfdjeaa
open Go Go.Proofs Go.RowKit Go.ChangeShapes Go.WideShapes Go.ChangeAt Go.Vx Go.Cp

theorem treeClades_lifted (os : Os) (started : os.Started) (H : Type) (enc : TypeId × Value → H) :
    ReturnsInHanded {} Try.checked os 7 .any (Rows.treeCladesSpec.pre6 enc Try.prog Try.f7 Rows.treeCladesRow.domain false) (Rows.treeCladesSpec.post enc Try.prog Try.f7 false true false false) := by
  refine law_lifted (m := 8) (tb := 4) os started H enc own laid (by kernel_rfl) Try.func7 rfl Try.underlying4 rfl ?_ (by kernel_rfl) (by kernel_rfl)
    (ChangeSpec.witness6 (enc := enc) (C := Try.checked) false ⟨#[], #[.slice none 0 0], []⟩ 8 (by kernel_rfl) (by kernel_rfl) (by kernel_rfl) (by kernel_rfl)) ?_
  · rw [Try.params7]
    intro ds hd
    match ds, hd with
    | [d1], _ => exact ⟨rfl, rfl, rfl⟩
  · rw [Try.params7]
    intro dss h
    obtain ⟨x1, rfl, h1⟩ := typedL1 h
    obtain ⟨t, rfl, hs, hl⟩ := typed_nodes (m := 5) h1
    simp only [argsAV, argAV, Try.underlying22]
    exact clades_law t hs

theorem treeClades_holds : Rows.TreeCladesSaid :=
  OpenClaim.holds_of_wide 7 Try.f7 rfl rfl rfl rfl rfl rfl rfl ⟨rfl, rfl, rfl, rfl, rfl⟩ rfl rfl rfl rfl rfl (by kernel_rfl) Try.func7 (by kernel_rfl)
    (of_decide_eq_true (by kernel_rfl)) (by unfold Func.isWrapper; first | (rw [if_pos (by decide +kernel)]; kernel_rfl) | (rw [if_neg (by decide +kernel)]; exact ⟨rfl, rfl⟩))
    (fun os started H enc _ => treeClades_lifted os started H enc)
#print axioms treeClades_holds

end Go.Proofs.Ytiioldgdgfdjeaa
